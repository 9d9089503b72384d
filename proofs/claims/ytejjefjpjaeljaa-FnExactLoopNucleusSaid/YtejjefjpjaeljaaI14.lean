/-
  What the program's functions on loops compute: the test of a table. No condition beside sizes.
-/
import Derived.Test.YtejjefjpjaeljaaI13
set_option linter.unusedVariables false
set_option linter.unusedSimpArgs false
namespace Go.Proofs.Ytejjefjpjaeljaa
open Go.RowKit

/-- the least k below n with p k, -1 if there is none -/
def idxB (p : Nat → Bool) (n : Nat) : Int := if fst p n < n then fst p n else -1
theorem idxB_at {p : Nat → Bool} {k n : Nat} (hk : k < n) (h : ∀ j, j < k → p j = false) (e : p k = true) : idxB p n = k := by
  unfold idxB; rw [fst_at hk h e, if_pos hk]
theorem idxB_none {p : Nat → Bool} {n : Nat} (h : ∀ j, j < n → p j = false) : idxB p n = -1 := by
  unfold idxB; rw [fst_none h, if_neg (Nat.lt_irrefl _)]

set_option maxHeartbeats 400000 in
/-- slices.IndexFunc over a table, the test a function that makes memory and turns none. -/
theorem iIndexFuncR_c (f : FuncId) (hcf : ∀ (a : Array Value) (W : World), (callFunc f a).run Try.prog W = .ok (.enter f a) W) (v : Value) (G : Nat) (L : Nat → Nat) (T : Nat → Nat → Int) (p : Nat → Bool) (w : World) (h : Tab w v G L T)
    (hf : ∀ i, i < G → ∀ W u, Below w.heap.size w W → Ints W u (L i) (T i) → Calls Try.prog f #[u] W fun e W' => Makes W W' e (.bool (p i))) :
    Calls Try.prog 62 #[v, .func (.func f) #[] #[]] w fun e w' => Makes w w' e (.int .i64 (idxB p G)) := by
  obtain ⟨ao, c, b, o, A, C, RB, RO, rfl, p2, p3, p4, p5, p6, p7, p8⟩ := h.out
  have hr := fun i hi => Tab.rowAt p6 p7 p8 (i := i) hi
  have Hr := Lib.hid hr
  have P5 := Lib.hid p5
  have HF := Lib.hid hf
  clear p5 p6 p7 p8 h hf hr
  go_enter Try.func62, Try.ntmps62
  go_wp2
  go_loopg [8] G (fun g i wr => ∃ k : Nat, k ≤ G ∧ g = G - k ∧ i = .int .i64 k ∧ Below w.heap.size w wr ∧ ∀ j, j < k → p j = false)
  case atStart => exact ⟨0, Nat.zero_le _, rfl, rfl, Below.refl _ _, fun j hj => absurd hj (Nat.not_lt_zero _)⟩
  case round =>
    obtain ⟨k, hk, rfl, rfl, hb, hall⟩ := hrel
    have HA := Lib.hid hall; clear hall
    by_cases hlt : k < G
    · obtain rfl := p4 (by omega)
      have e1 : wr.cell? ⟨b, o + k, none⟩ = some (.slice (A k) (L k) (C k)) := by rw [hb.cell (p := ⟨b, o + k, none⟩) (lt_of_cell (P5.out k hlt))]; exact P5.out k hlt
      have hbs := hb.size
      go_wp2_with fail
      refine Calls.makes' (HF.out k hlt _ _ hb ((Hr.out k hlt).below hb)) _ fun w1 hb1 => ?_
      cases hp : p k
      · go_wp2
        go_roundg (G - (k + 1))
        case measure => omega
        case rel => exact ⟨k + 1, by omega, rfl, by go_num, hb.trans (hb1.mono hbs), fun j hj => by
          by_cases e : j = k
          · subst e; exact hp
          · exact HA.out j (by omega)⟩
      · go_wp2
        go_ret
        exact ⟨ret_i64 (idxB_at hlt HA.out hp).symm, hb.trans (hb1.mono hbs)⟩
    · obtain rfl : k = G := by omega
      go_wp2
      go_ret
      exact ⟨ret_i64 (idxB_none HA.out).symm, hb⟩

def anyB (p : Nat → Bool) (n : Nat) : Bool := decide (0 ≤ idxB p n)
theorem anyB_at {p : Nat → Bool} {n k : Nat} (hk : k < n) (e : p k = true) : anyB p n = true := by
  have h := (fst_more ⟨k, hk, e⟩ 0).1
  unfold anyB idxB; rw [if_pos h]; exact decide_eq_true (by omega)
theorem anyB_none {p : Nat → Bool} {n : Nat} (h : ∀ j, j < n → p j = false) : anyB p n = false := by
  unfold anyB; rw [idxB_none h]; rfl

theorem iContainsFuncR_c (f : FuncId) (hcf : ∀ (a : Array Value) (W : World), (callFunc f a).run Try.prog W = .ok (.enter f a) W) (v : Value) (G : Nat) (L : Nat → Nat) (T : Nat → Nat → Int) (p : Nat → Bool) (w : World) (h : Tab w v G L T)
    (hf : ∀ i, i < G → ∀ W u, Below w.heap.size w W → Ints W u (L i) (T i) → Calls Try.prog f #[u] W fun e W' => Makes W W' e (.bool (p i))) :
    Calls Try.prog 41 #[v, .func (.func f) #[] #[]] w fun e w' => Makes w w' e (.bool (anyB p G)) := by
  have HF := Lib.hid hf
  clear hf
  go_enter Try.func41, Try.ntmps41
  go_wp2_with fail
  refine Calls.makes' (iIndexFuncR_c f hcf _ _ _ _ p _ h HF.out) _ fun w1 hb1 => ?_
  go_wp2
  go_ret
  exact ⟨rfl, hb1⟩

theorem iIsLoop1_c (v : Value) (n : Nat) (X : Nat → Int) (w : World) (h : Ints w v n X) (hn : n ≤ 1048576) :
    Calls Try.prog 43 #[v] w fun e w' => Makes w w' e (.bool (!onceB n X)) := by
  go_enter Try.func43, Try.ntmps43
  go_wp2_with fail
  refine Calls.makes' (iOnce_c _ _ _ _ h hn) _ fun w1 hb1 => ?_
  go_wp2
  go_ret
  exact ⟨rfl, hb1⟩

set_option maxHeartbeats 1000000 in
theorem iIsLoop_c (v : Value) (G : Nat) (L : Nat → Nat) (T : Nat → Nat → Int) (w : World) (h : Tab w v G L T) :
    Calls Try.prog 15 #[v] w fun e w' => Makes w w' e (.bool (loopB G L T)) := by
  have HTab := Lib.hid h
  obtain ⟨ao, c, b, o, A, C, RB, RO, rfl, p2, p3, p4, p5, p6, p7, p8⟩ := h.out
  clear h
  by_cases hg1 : 1 ≤ G
  · by_cases hg2 : G ≤ 128
    · obtain rfl := p4 (by omega)
      have P6 := Lib.hid p6
      have P7 := Lib.hid p7
      have P8 := Lib.hid p8
      clear p4 p6 p7 p8
      go_enter Try.func15, Try.ntmps15
      go_wp2
      go_loopg [18] G (fun g i wr => w = wr ∧ ∃ k : Nat, k ≤ G ∧ g = G - k ∧ i = .int .i64 k ∧ ∀ j, j < k → L j = G)
      case atStart => exact ⟨rfl, 0, Nat.zero_le _, rfl, rfl, fun j hj => absurd hj (Nat.not_lt_zero _)⟩
      case round =>
        obtain ⟨rfl, k, hk, rfl, rfl, hl⟩ := hrel
        have HL := Lib.hid hl; clear hl
        by_cases hlt : k < G
        · by_cases hk2 : L k = G
          · have hc := p5 k hlt
            rw [hk2] at hc
            clear p5
            go_wp2
            go_roundg (G - (k + 1))
            case measure => omega
            case rel => exact ⟨rfl, k + 1, by omega, rfl, by go_num, fun j hj => by
              by_cases e : j = k
              · subst e; exact hk2
              · exact HL.out j (by omega)⟩
          · have hd : ((L k : Int) != (G : Int)) = true := by rw [bne_iff_ne]; omega
            have hC := P6.out k hlt
            go_wp2
            go_ret
            exact ⟨ret_bool (loopB_false fun h => hk2 (h.len k hlt)).symm, Below.refl _ _⟩
        · obtain rfl : k = G := by omega
          have hrow : ∀ i, i < k → Ints w (.slice (some ⟨RB i, RO i, none⟩) k (C i)) k (T i) := fun i hi => by
            have h := Tab.rowAt P6.out P7.out P8.out hi
            rw [HL.out i hi, P7.out i hi (by rw [HL.out i hi]; omega)] at h; exact h
          have q5 : ∀ i, i < k → w.cell? ⟨b, o + i, none⟩ = some (.slice (some ⟨RB i, RO i, none⟩) k (C i)) := fun i hi => by rw [p5 i hi, HL.out i hi, P7.out i hi (by rw [HL.out i hi]; omega)]
          have q8 : ∀ i j, i < k → j < k → w.cell? ⟨RB i, RO i + j, none⟩ = some (.int .i64 (T i j)) := fun i j hi hj => P8.out i j hi (by rw [HL.out i hi]; exact hj)
          have HR := Lib.hid hrow
          have Q5 := Lib.hid q5
          have Q8 := Lib.hid q8
          clear p5 hrow q5 q8
          go_wp2
          go_loopg [29] k (fun g i wr => ∃ x : Nat, x ≤ k ∧ g = k - x ∧ i = .int .i64 x ∧ Below w.heap.size w wr ∧ ∀ j : Nat, j < x → T j 0 = j ∧ T 0 j = j ∧ OnceTo k (T j) k)
          case atStart => exact ⟨0, Nat.zero_le _, rfl, rfl, Below.refl _ _, fun j hj => absurd hj (Nat.not_lt_zero _)⟩
          case round =>
            obtain ⟨x, hx, rfl, rfl, hb, hl⟩ := hrel
            have HX := Lib.hid hl; clear hl
            by_cases hlt2 : x < k
            · have e0 : wr.cell? ⟨b, o, none⟩ = some (.slice (some ⟨RB 0, RO 0, none⟩) k (C 0)) := by
                have h := Q5.out 0 (by omega)
                rw [hb.cell (p := ⟨b, o, none⟩) (lt_of_cell (Q5.out x hlt2)), show o = o + 0 from rfl, h]
              have e1 : wr.cell? ⟨b, o + x, none⟩ = some (.slice (some ⟨RB x, RO x, none⟩) k (C x)) := by
                rw [hb.cell (p := ⟨b, o + x, none⟩) (lt_of_cell (Q5.out x hlt2)), Q5.out x hlt2]
              have e2 : wr.cell? ⟨RB 0, RO 0 + x, none⟩ = some (.int .i64 (T 0 x)) := by
                rw [hb.cell (p := ⟨RB 0, RO 0 + x, none⟩) (lt_of_cell (Q8.out 0 x (by omega) hlt2)), Q8.out 0 x (by omega) hlt2]
              have e3 : wr.cell? ⟨RB x, RO x, none⟩ = some (.int .i64 (T x 0)) := by
                have h := Q8.out x 0 hlt2 (by omega)
                rw [show RO x = RO x + 0 from rfl, hb.cell (p := ⟨RB x, RO x + 0, none⟩) (lt_of_cell h), h]
              have hI := (HR.out x hlt2).below hb
              have hbs := hb.size
              have hk0 : 0 < k := by omega
              by_cases c1 : T x 0 = x
              · have t1 : (T x 0 != (x : Int)) = false := by rw [c1]; simp
                have C1 := Lib.hid c1
                clear c1
                by_cases c2 : T 0 x = x
                · have t2 : (T 0 x != (x : Int)) = false := by rw [c2]; simp
                  have C2 := Lib.hid c2
                  clear c2
                  go_wp2_with fail
                  refine Calls.makes' (iOnce_c _ _ _ _ hI (by omega)) _ fun w1 hb1 => ?_
                  cases hon : onceB k (T x)
                  · go_wp2
                    go_ret
                    exact ⟨ret_bool (loopB_false fun h => by
                      have := onceB_true (n := k) (X := T x) ⟨fun j hj => h.range x j hlt2 hj, fun i j hij hj => h.row x i j hlt2 hij hj⟩
                      rw [this] at hon; cases hon).symm, hb.trans (hb1.mono hbs)⟩
                  · go_wp2
                    go_roundg (k - (x + 1))
                    case measure => omega
                    case rel => exact ⟨x + 1, by omega, rfl, by go_num, hb.trans (hb1.mono hbs), fun j hj => by
                      by_cases e : j = x
                      · subst e; exact ⟨C1.out, C2.out, onceB_ok hon⟩
                      · exact HX.out j (by omega)⟩
                · have t2 : (T 0 x != (x : Int)) = true := by rw [bne_iff_ne]; exact c2
                  go_wp2_with fail
                  go_ret
                  exact ⟨ret_bool (loopB_false fun h => c2 (h.unit x hlt2).1).symm, hb⟩
              · have t1 : (T x 0 != (x : Int)) = true := by rw [bne_iff_ne]; exact c1
                go_wp2_with fail
                go_ret
                exact ⟨ret_bool (loopB_false fun h => c1 (h.unit x hlt2).2).symm, hb⟩
            · obtain rfl : x = k := by omega
              have hbs := hb.size
              go_wp2_with fail
              refine (iTranspose_c _ x x _ _ _ (HTab.out.below hb) hg1 (by omega) (by omega) (HL.out 0 (by omega)) (fun i hi => by rw [HL.out i hi]; exact Nat.le_refl _)).mono ?_
              rintro e w1 ⟨g1, c1, rfl, hb1, hT1⟩
              go_wp2_with fail
              refine Calls.makes' (iContainsFuncR_c 43 (fun _ _ => by simp [go_sem]) _ _ _ _ (fun i => !onceB x (fun j => T j i)) _ hT1.tab (fun i hi W u hb hI => iIsLoop1_c _ _ _ _ hI (by omega))) _ fun w2 hb2 => ?_
              have hb3 := hb1.trans (hb2.mono hb1.size)
              have hb4 := hb.trans (hb3.mono hbs)
              cases ha : anyB (fun i => !onceB x (fun j => T j i)) x
              · go_wp2
                go_ret
                refine ⟨ret_bool (loopB_true ?_).symm, hb4⟩
                have hcol : ∀ i, i < x → OnceTo x (fun j => T j i) x := fun i hi => onceB_ok (by
                  cases h : onceB x (fun j => T j i)
                  · rw [anyB_at (p := fun i => !onceB x (fun j => T j i)) hi (by simp [h])] at ha; cases ha
                  · rfl)
                exact ⟨hg1, hg2, HL.out, fun i hi => ⟨(HX.out i hi).2.1, (HX.out i hi).1⟩, fun i j hi hj => (HX.out i hi).2.2.range j hj, fun i j l hi hj hl => (HX.out i hi).2.2.diff j l hj hl, fun i j l hi hj hl => (hcol i hi).diff j l hj hl⟩
              · go_wp2
                go_ret
                refine ⟨ret_bool (loopB_false fun h => ?_).symm, hb4⟩
                rw [anyB_none (p := fun i => !onceB x (fun j => T j i)) fun i hi => by
                  rw [onceB_true (n := x) (X := fun j => T j i) ⟨fun j hj => h.range j i hj hi, fun j l hjl hl => h.col i j l hi hjl hl⟩]; rfl] at ha
                cases ha
    · have hd : decide ((128 : Int) < (G : Int)) = true := decide_eq_true (by omega)
      go_enter Try.func15, Try.ntmps15
      go_wp2
      go_ret
      exact ⟨ret_bool (loopB_false fun h => hg2 h.max).symm, Below.refl _ _⟩
  · go_enter Try.func15, Try.ntmps15
    go_wp2
    go_ret
    exact ⟨ret_bool (loopB_false fun h => hg1 h.pos).symm, Below.refl _ _⟩

end Go.Proofs.Ytejjefjpjaeljaa
