/-
  Multivectors of one grade, even multivectors, in both programs. No condition beside sizes.
-/
import Derived.Test.YtmedmkjlhcoepaaMG4
import Derived.Test.YtmedmkjlhcoepaaTJ
set_option linter.unusedVariables false
set_option linter.unusedSimpArgs false
namespace Go.Proofs.Ytmedmkjlhcoepaa
open Go.RowKit

/-- only the grade k; only even grades -/
def onlyB (N : Nat) (X : Nat → Int) (k : Nat) : Bool := decide (∀ m, m < N → X m ≠ 0 → pc m = k)
def evenB (N : Nat) (X : Nat → Int) : Bool := decide (∀ m, m < N → X m ≠ 0 → pc m % 2 = 0)
theorem gL_get {N n : Nat} {X : Nat → Int} {i : Nat} (hi : i < (gL N X n).length) : ∃ k : Nat, (gL N X n).getD i 0 = (k : Int) ∧ k < n ∧ gB N X k = true := by
  have h1 : (gL N X n)[i] ∈ gL N X n := List.getElem_mem hi
  obtain ⟨k, h2, h3, h4⟩ := (gL_mem N X n _).1 h1
  exact ⟨k, by rw [h4]; simp [List.getD, List.getElem?_eq_getElem hi], h2, h3⟩
theorem gL_has {n : Nat} (hn : n ≤ 6) {X : Nat → Int} {m : Nat} (hm : m < 2 ^ n) (hx : X m ≠ 0) : ∃ i, i < (gL (2 ^ n) X (n + 1)).length ∧ (gL (2 ^ n) X (n + 1)).getD i 0 = (pc m : Int) := by
  have hle := pc_le hn hm
  have h1 : (pc m : Int) ∈ gL (2 ^ n) X (n + 1) := (gL_mem _ _ _ _).2 ⟨pc m, by omega, decide_eq_true ⟨m, hm, rfl, hx⟩, rfl⟩
  obtain ⟨i, hi, e⟩ := List.getElem_of_mem h1
  exact ⟨i, hi, by simp [List.getD, List.getElem?_eq_getElem hi, e]⟩
theorem any_only {n : Nat} (hn : n ≤ 6) (X : Nat → Int) (k : Nat) : anyB (fun i => (gL (2 ^ n) X (n + 1)).getD i 0 != (k : Int)) (gL (2 ^ n) X (n + 1)).length = !onlyB (2 ^ n) X k := by
  cases ho : onlyB (2 ^ n) X k
  · have h1 := of_decide_eq_false ho
    have h2 : ∃ m, m < 2 ^ n ∧ X m ≠ 0 ∧ pc m ≠ k := by
      refine Classical.byContradiction fun hc => h1 fun m hm hx => ?_
      refine Classical.byContradiction fun hk => hc ⟨m, hm, hx, hk⟩
    obtain ⟨m, hm, hx, hk⟩ := h2
    obtain ⟨i, hi, e⟩ := gL_has hn hm hx
    exact anyB_at hi (by rw [e, bne_iff_ne]; omega)
  · have h1 := of_decide_eq_true ho
    refine anyB_none fun i hi => ?_
    obtain ⟨q, e, _, hq⟩ := gL_get hi
    obtain ⟨m, hm, hp, hx⟩ := of_decide_eq_true hq
    rw [e, ← hp, h1 m hm hx]; simp
theorem any_even {n : Nat} (hn : n ≤ 6) (X : Nat → Int) : anyB (fun i => (gL (2 ^ n) X (n + 1)).getD i 0 % 2 == 1) (gL (2 ^ n) X (n + 1)).length = !evenB (2 ^ n) X := by
  cases ho : evenB (2 ^ n) X
  · have h1 := of_decide_eq_false ho
    have h2 : ∃ m, m < 2 ^ n ∧ X m ≠ 0 ∧ pc m % 2 ≠ 0 := by
      refine Classical.byContradiction fun hc => h1 fun m hm hx => ?_
      refine Classical.byContradiction fun hk => hc ⟨m, hm, hx, hk⟩
    obtain ⟨m, hm, hx, hk⟩ := h2
    obtain ⟨i, hi, e⟩ := gL_has hn hm hx
    exact anyB_at hi (by rw [e, beq_iff_eq]; omega)
  · have h1 := of_decide_eq_true ho
    refine anyB_none fun i hi => ?_
    obtain ⟨q, e, _, hq⟩ := gL_get hi
    obtain ⟨m, hm, hp, hx⟩ := of_decide_eq_true hq
    have h2 := h1 m hm hx
    rw [e, beq_eq_false_iff_ne]; omega

set_option maxHeartbeats 400000 in
/-- slices.ContainsFunc over integers, the test a function without a captured variable -/
theorem iIndexFunc0_c (f : FuncId) (hcf : ∀ (a : Array Value) (W : World), (callFunc f a).run Try.prog W = .ok (.enter f a) W) (v : Value) (n : Nat) (X : Nat → Int) (p : Nat → Bool) (w : World) (h : Ints w v n X)
    (hf : ∀ i, i < n → ∀ W, Below w.heap.size w W → Calls Try.prog f #[.int .i64 (X i)] W fun e W' => Makes W W' e (.bool (p i))) :
    Calls Try.prog 151 #[v, .func (.func f) #[] #[]] w fun e w' => Makes w w' e (.int .i64 (idxB p n)) := by
  obtain ⟨ao, c, b, o, rfl, p2, p3, p4, p5⟩ := h.out
  have P5 := Lib.hid p5
  have HF := Lib.hid hf
  clear p5 h hf
  go_enter Try.func151, Try.ntmps151
  go_wp2
  go_loopg [8] n (fun g i wr => ∃ k : Nat, k ≤ n ∧ g = n - k ∧ i = .int .i64 k ∧ Below w.heap.size w wr ∧ ∀ j, j < k → p j = false)
  case atStart => exact ⟨0, Nat.zero_le _, rfl, rfl, Below.refl _ _, fun j hj => absurd hj (Nat.not_lt_zero _)⟩
  case round =>
    obtain ⟨k, hk, rfl, rfl, hb, hall⟩ := hrel
    have HA := Lib.hid hall; clear hall
    by_cases hlt : k < n
    · obtain rfl := p4 (by omega)
      have e1 : wr.cell? ⟨b, o + k, none⟩ = some (.int .i64 (X k)) := by rw [hb.cell (p := ⟨b, o + k, none⟩) (lt_of_cell (P5.out k hlt))]; exact P5.out k hlt
      have hbs := hb.size
      go_wp2_with fail
      refine Calls.makes' (HF.out k hlt _ hb) _ fun w1 hb1 => ?_
      cases hp : p k
      · go_wp2
        go_roundg (n - (k + 1))
        case measure => omega
        case rel => exact ⟨k + 1, by omega, rfl, by go_num, hb.trans (hb1.mono hbs), fun j hj => by
          by_cases e : j = k
          · subst e; exact hp
          · exact HA.out j (by omega)⟩
      · go_wp2
        go_ret
        exact ⟨ret_i64 (idxB_at hlt HA.out hp).symm, hb.trans (hb1.mono hbs)⟩
    · obtain rfl : k = n := by omega
      go_wp2
      go_ret
      exact ⟨ret_i64 (idxB_none HA.out).symm, hb⟩
theorem iContainsFunc0_c (f : FuncId) (hcf : ∀ (a : Array Value) (W : World), (callFunc f a).run Try.prog W = .ok (.enter f a) W) (v : Value) (n : Nat) (X : Nat → Int) (p : Nat → Bool) (w : World) (h : Ints w v n X)
    (hf : ∀ i, i < n → ∀ W, Below w.heap.size w W → Calls Try.prog f #[.int .i64 (X i)] W fun e W' => Makes W W' e (.bool (p i))) :
    Calls Try.prog 126 #[v, .func (.func f) #[] #[]] w fun e w' => Makes w w' e (.bool (anyB p n)) := by
  have HF := Lib.hid hf
  clear hf
  go_enter Try.func126, Try.ntmps126
  go_wp2_with fail
  refine Calls.makes' (iIndexFunc0_c f hcf _ _ _ p _ h HF.out) _ fun w1 hb1 => ?_
  go_wp2
  go_ret
  exact ⟨rfl, hb1⟩

theorem iEven1_c (x : Int) (W : World) (h : 0 ≤ x ∧ x ≤ 100) : Calls Try.prog 127 #[.int .i64 x] W fun e W' => Makes W W' e (.bool (x % 2 == 1)) := by
  obtain ⟨h1, h2⟩ := h
  go_enter Try.func127, Try.ntmps127
  go_wp2
  go_ret
  exact ⟨rfl, Below.refl _ _⟩
theorem iOnly1_c (x k : Int) (b : Nat) (W : World) (h : W.cell? ⟨b, 0, none⟩ = some (.int .i64 k)) : Calls Try.prog 135 #[.int .i64 x, .pointer (some ⟨b, 0, none⟩)] W fun e W' => Makes W W' e (.bool (x != k)) := by
  go_enter Try.func135, Try.ntmps135
  go_wp2
  go_ret
  exact ⟨rfl, Below.refl _ _⟩

set_option maxRecDepth 100000 in
set_option maxHeartbeats 1000000 in
theorem iOnly_c (v : Value) (n : Nat) (X : Nat → Int) (k : Nat) (w : World) (h : Ints w v (2 ^ n) X) (hn : n ≤ 6) :
    Calls Try.prog 94 #[v, .int .i64 k] w fun e w' => Makes w w' e (.bool (onlyB (2 ^ n) X k)) := by
  have hba : Below w.heap.size w (w.alloc (.cells #[.int .i64 k] 2)) := (Below.refl _ _).alloc (Nat.le_refl _) _
  have HG := Lib.hid (iGrades_c v n X (w.alloc (.cells #[.int .i64 k] 2)) (h.below hba) hn)
  have HA := Lib.hid (any_only hn X k)
  have HB := Lib.hid (fun i (hi : i < (gL (2 ^ n) X (n + 1)).length) => gL_get hi)
  have c0 : (w.alloc (.cells #[.int .i64 k] 2)).cell? ⟨w.heap.size, 0, none⟩ = some (.int .i64 k) := by simp
  have C0 := Lib.hid c0
  obtain ⟨G, hG⟩ : ∃ G, gL (2 ^ n) X (n + 1) = G := ⟨_, rfl⟩
  rw [hG] at HG HA
  obtain ⟨q, hq⟩ : ∃ q, onlyB (2 ^ n) X k = q := ⟨_, rfl⟩
  rw [hq] at HA ⊢
  have hba := Lib.hid hba
  obtain ⟨ao, c, _, _, rfl, qx⟩ := h.out
  clear qx h c0 hG hq HB
  go_enter Try.func94, Try.ntmps94
  go_wp2_with fail
  go_at_call 78
  refine HG.out.mono ?_
  rintro e w1 ⟨g1, c1, rfl, hg1, hb1, hO1⟩
  have f0 := cellKp hb1 C0.out
  have HI := Lib.hid hO1.ints
  have hb2 := Lib.hid (hba.out.trans (hb1.mono hba.out.size))
  clear hO1 hb1 HG
  go_wp2_with fail
  refine Calls.makes' (iContainsFuncI_c 135 (fun _ _ => by simp [go_sem]) _ _ G.length (fun i => G.getD i 0) (fun i => G.getD i 0 != (k : Int)) _ HI.out (fun i hi W hb => iOnly1_c _ _ _ W (cellKp hb f0))) _ fun w3 hb3 => ?_
  rw [HA.out]
  have hb4 := Lib.hid (hb2.out.trans (hb3.mono hb2.out.size))
  go_wp2
  go_ret
  exact ⟨by simp, hb4.out⟩

set_option maxRecDepth 100000 in
set_option maxHeartbeats 1000000 in
theorem iEven_c (v : Value) (n : Nat) (X : Nat → Int) (w : World) (h : Ints w v (2 ^ n) X) (hn : n ≤ 6) :
    Calls Try.prog 76 #[v] w fun e w' => Makes w w' e (.bool (evenB (2 ^ n) X)) := by
  have HG := Lib.hid (iGrades_c v n X w h hn)
  have HA := Lib.hid (any_even hn X)
  have HB : Hid (∀ i, i < (gL (2 ^ n) X (n + 1)).length → 0 ≤ (gL (2 ^ n) X (n + 1)).getD i 0 ∧ (gL (2 ^ n) X (n + 1)).getD i 0 ≤ 100) := fun i hi => by
    obtain ⟨k, e, h1, _⟩ := gL_get hi
    rw [e]; omega
  obtain ⟨G, hG⟩ : ∃ G, gL (2 ^ n) X (n + 1) = G := ⟨_, rfl⟩
  rw [hG] at HG HA HB
  obtain ⟨q, hq⟩ : ∃ q, evenB (2 ^ n) X = q := ⟨_, rfl⟩
  rw [hq] at HA ⊢
  obtain ⟨ao, c, _, _, rfl, qx⟩ := h.out
  clear qx h hG hq
  go_enter Try.func76, Try.ntmps76
  go_wp2_with fail
  go_at_call 78
  refine HG.out.mono ?_
  rintro e w1 ⟨g1, c1, rfl, hg1, hb1, hO1⟩
  have HI := Lib.hid hO1.ints
  have hb2 := Lib.hid hb1
  clear hO1 hb1 HG
  go_wp2_with fail
  refine Calls.makes' (iContainsFunc0_c 127 (fun _ _ => by simp [go_sem]) _ G.length (fun i => G.getD i 0) (fun i => G.getD i 0 % 2 == 1) _ HI.out (fun i hi W hb => iEven1_c _ W (HB.out i hi))) _ fun w3 hb3 => ?_
  rw [HA.out]
  have hb4 := Lib.hid (hb2.out.trans (hb3.mono hb2.out.size))
  go_wp2
  go_ret
  exact ⟨by simp, hb4.out⟩

end Go.Proofs.Ytmedmkjlhcoepaa
