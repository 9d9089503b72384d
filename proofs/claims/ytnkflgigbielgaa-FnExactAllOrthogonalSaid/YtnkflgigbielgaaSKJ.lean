/-
  AreDependent in both programs. No condition.
-/
import Derived.Test.YtnkflgigbielgaaSE5
import Derived.Test.YtnkflgigbielgaaSP3
import Derived.Test.YtnkflgigbielgaaQJ
import Derived.Test.YtnkflgigbielgaaD40
import Derived.Deep.DeepMust
import Derived.Maps.OwnSet
import Derived.Maps.OwnOps
import Derived.Maps.RangeWalk
import Derived.Maps.Views
import Derived.Test.YtnkflgigbielgaaDT
set_option linter.unusedVariables false
set_option linter.unusedSimpArgs false
namespace Go.Proofs.Ytnkflgigbielgaa
open Go.RowKit

theorem Tab.sameL {w : World} {v : Value} {G n : Nat} {L : Nat → Nat} {T : Nat → Nat → Int} (h : Tab w v G L T) (hL : ∀ i, i < G → L i = n) : Tab w v G (fun _ => n) T := by
  obtain ⟨ao, c, b, o, A, C, RB, RO, h1, h2, h3, h4, h5, h6, h7, h8⟩ := h.out
  exact ⟨ao, c, b, o, A, C, RB, RO, h1, h2, h3, h4, fun i hi => by rw [h5 i hi, hL i hi], fun i hi => by rw [← hL i hi]; exact h6 i hi, fun i hi hp => h7 i hi (by rw [hL i hi]; exact hp), fun i j hi hj => h8 i j hi (by rw [hL i hi]; exact hj)⟩
/-- rows that are vectors, as a table of the field -/
theorem vecRows {w : World} {v : Value} {p : Int} {n m : Nat} {L : Nat → Nat} {T : Nat → Nat → Int} (h : Tab w v m L T) (hv : ∀ i, i < m → vecB p n (L i) (T i) = true) : Tab w v m (fun _ => n) T ∧ RowsIn p m n T := by
  have h2 : ∀ i, i < m → L i = n ∧ InP p n (T i) := fun i hi => by
    have hh := hv i hi
    obtain ⟨ao, c, b, o, A, C, RB, RO, h1, _, _, _, _, h6, h7, h8⟩ := h.out
    have := vecB_vc (Tab.rowAt h6 h7 h8 hi) hh
    exact ⟨this.1, this.2.inp⟩
  exact ⟨h.sameL fun i hi => (h2 i hi).1, fun i hi => (h2 i hi).2⟩

set_option maxRecDepth 100000 in
set_option maxHeartbeats 1000000 in
theorem sL5_c (p : Int) (sv lv : Value) (n m : Nat) (s : Nat → Int) (L : Nat → Nat) (T : Nat → Nat → Int) (w : World) (h : Ints w sv n s) (hl : Tab w lv m L T) :
    Calls Try.prog 104 #[dbl p sv, lv] w fun e w' => Makes w w' e (.int .i64 (codeSl (spB p n s) p n m L T)) := by
  have h' := Lib.hid h
  obtain ⟨ao, c, b, o, rfl, p2, p3, qx⟩ := h.out
  have hl' := Lib.hid hl
  obtain ⟨la, lc, lb, lo, A, C, RB, RO, rfl, qy⟩ := hl.out
  clear qx qy h hl
  obtain ⟨e0, e1, e2, e3⟩ := box0 w p ao n c 26
  have BX := Lib.hid (box0 w p ao n c 26)
  cases hok : spB p n s
  · rw [← hok, codeSl_out hok]
    go_enter Try.func104, Try.ntmps104
    go_wp2_with fail
    refine Calls.makes' (sIsSp_c _ _ _ _ _ (h'.out.below e3)) _ fun w1 hb1 => ?_
    rw [hok]
    go_wp2
    go_ret
    exact ⟨rfl, e3.trans (hb1.mono e3.size)⟩
  · rw [← hok]
    have hsp := spB_ok hok
    obtain ⟨bb, hbb⟩ : ∃ bb, (anyB (fun i => !vecB p n (L i) (T i)) m || decide (16 < m)) = bb := ⟨_, rfl⟩
    have HLC : Hid (∀ W, Below w.heap.size w W → Calls Try.prog 99 #[dbl p (.slice ao n c), .slice la m lc] W fun e w' => Makes W w' e (.bool (!bb))) := fun W hb => hbb ▸ sList_c p _ _ n m s L T W ⟨h'.out.below hb, hsp⟩ (hl'.out.below hb)
    have hcc : codeSl (spB p n s) p n m L T = if bb then 2 else 0 := by rw [codeSl_in hok, hbb]
    have HOK := Lib.hid hok
    rw [hcc]
    clear hbb hcc hok
    cases bb
    all_goals
      go_enter Try.func104, Try.ntmps104
      go_wp2_with fail
      refine Calls.makes' (sIsSp_c _ _ _ _ _ (h'.out.below e3)) _ fun w1 hb1 => ?_
      rw [HOK.out]
      have bx1 := boxKeep hb1 BX.out
      obtain ⟨f0, f1, f2, f3⟩ := bx1
      go_wp2_with fail
      refine Calls.makes' (HLC.out _ f3) _ fun w2 hb2 => ?_
      go_wp2
      go_ret
      exact ⟨rfl, f3.trans (hb2.mono f3.size)⟩

/-- what AreDependent answers -/
def depB (cc p : Int) (n m : Nat) (T : Nat → Nat → Int) : Bool := if cc = 0 then decide ((bSt p m T n).2 < m) else false

end Go.Proofs.Ytnkflgigbielgaa

/-
  The first place with a number, whether a list has a number, and the unit, in both programs. No condition beside sizes.
-/
set_option linter.unusedVariables false
set_option linter.unusedSimpArgs false
namespace Go.Proofs.Ytnkflgigbielgaa
open Go.RowKit

theorem setCell_size (w : World) (a : Addr) (u : Value) : (w.setCell a u).heap.size = w.heap.size := by simp [World.setCell]
theorem fst_step_no {p : Nat → Bool} {k n : Nat} (hk : k < n) (h : ∀ j, j ≤ k → p j = false) : k < fst p n := by
  by_cases e : k < fst p n
  · exact e
  · have hl : fst p n < n := by omega
    have := fst_is p n hl
    rw [h _ (by omega)] at this
    cases this

set_option maxRecDepth 100000 in
set_option maxHeartbeats 1000000 in
theorem iLead_c (v : Value) (n : Nat) (X : Nat → Int) (w : World) (h : Ints w v n X) (hn : n ≤ 1048576) :
    Calls Try.prog 133 #[v] w fun e w' => e = .returned (.int .i64 (ldd n X)) ∧ w = w' := by
  obtain ⟨ao, c, b, o, rfl, p2, p3, p4, p5⟩ := h.out
  have P5 := Lib.hid p5
  clear h p5
  go_enter Try.func133, Try.ntmps133
  go_wp2
  go_loopg [3] n (fun g i wr => wr = w ∧ ∃ j : Nat, j ≤ n ∧ g = n - j ∧ i = .int .i64 j ∧ Hid (∀ q, q < j → X q = 0))
  case atStart => exact ⟨rfl, 0, Nat.zero_le _, rfl, rfl, fun q hq => absurd hq (Nat.not_lt_zero _)⟩
  case round =>
    obtain ⟨rfl, j, hj, rfl, rfl, hz⟩ := hrel
    by_cases hlt : j < n
    · obtain rfl := p4 (by omega)
      obtain ⟨y, hy⟩ : ∃ y, X j = y := ⟨_, rfl⟩
      have e1 := P5.out j hlt
      rw [hy] at e1
      have HY := Lib.hid hy
      clear hy
      by_cases hy0 : y = 0
      · subst hy0
        go_wp2
        go_roundg (n - (j + 1))
        case measure => omega
        case rel => exact ⟨rfl, j + 1, by omega, rfl, by go_num, fun q hq => by
          by_cases e : q = j
          · rw [e]; exact HY.out
          · exact hz.out q (by omega)⟩
      · have hd0 : decide (y = 0) = false := decide_eq_false hy0
        go_wp2
        go_ret
        exact ⟨ret_i64 (by rw [ldd_at hlt hz.out (by rw [HY.out]; exact hy0)]), rfl⟩
    · obtain rfl : j = n := by omega
      go_wp2
      go_ret
      exact ⟨ret_i64 (by unfold ldd; rw [fst_none fun k hk => by simp [hz.out k hk]]), rfl⟩

set_option maxRecDepth 100000 in
set_option maxHeartbeats 1000000 in
theorem sFirst_c (v : Value) (n : Nat) (X : Nat → Int) (w : World) (h : Ints w v n X) (hn : n ≤ 1048576) (hl : ldd n X < n) :
    Calls Try.prog 158 #[v] w fun e w' => e = .returned (.int .i64 (ldd n X)) ∧ w = w' := by
  obtain ⟨ao, c, b, o, rfl, p2, p3, p4, p5⟩ := h.out
  have P5 := Lib.hid p5
  have HL := Lib.hid hl
  clear h p5 hl
  go_enter Try.func158, Try.ntmps158
  go_wp2
  go_loopg [3] n (fun g i wr => wr = w ∧ ∃ j : Nat, j ≤ n ∧ g = n - j ∧ i = .int .i64 j ∧ Hid (∀ q, q < j → X q = 0))
  case atStart => exact ⟨rfl, 0, Nat.zero_le _, rfl, rfl, fun q hq => absurd hq (Nat.not_lt_zero _)⟩
  case round =>
    obtain ⟨rfl, j, hj, rfl, rfl, hz⟩ := hrel
    by_cases hlt : j < n
    · obtain rfl := p4 (by omega)
      obtain ⟨y, hy⟩ : ∃ y, X j = y := ⟨_, rfl⟩
      have e1 := P5.out j hlt
      rw [hy] at e1
      have HY := Lib.hid hy
      clear hy
      by_cases hy0 : y = 0
      · subst hy0
        go_wp2
        go_roundg (n - (j + 1))
        case measure => omega
        case rel => exact ⟨rfl, j + 1, by omega, rfl, by go_num, fun q hq => by
          by_cases e : q = j
          · rw [e]; exact HY.out
          · exact hz.out q (by omega)⟩
      · have hd0 : decide (y = 0) = false := decide_eq_false hy0
        go_wp2
        go_ret
        exact ⟨ret_i64 (by rw [ldd_at hlt hz.out (by rw [HY.out]; exact hy0)]), rfl⟩
    · obtain rfl : j = n := by omega
      exact absurd HL.out (by unfold ldd; rw [fst_none fun k hk => by simp [hz.out k hk]]; omega)

theorem idx_nonneg (X : Nat → Int) (x : Int) : ∀ n, (0 ≤ idx X x n ↔ ∃ j, j < n ∧ X j = x) := by
  intro n
  constructor
  · intro h
    by_cases e : ∃ j, j < n ∧ X j = x
    · exact e
    · have := idx_none (f := X) (x := x) (n := n) fun j hj hx => e ⟨j, hj, hx⟩
      omega
  · rintro ⟨j, hj, hx⟩
    have key : ∀ m, (∃ j, j < m ∧ X j = x) → ∃ k, k < m ∧ (∀ i, i < k → X i ≠ x) ∧ X k = x := by
      intro m
      induction m with
      | zero => rintro ⟨j, hj, _⟩; omega
      | succ m ih =>
        rintro ⟨j, hj, hx⟩
        by_cases e : ∃ j, j < m ∧ X j = x
        · obtain ⟨k, h1, h2, h3⟩ := ih e
          exact ⟨k, by omega, h2, h3⟩
        · have : j = m := by
            by_cases e2 : j < m
            · exact absurd ⟨j, e2, hx⟩ e
            · omega
          subst this
          exact ⟨j, by omega, fun i hi hxi => e ⟨i, hi, hxi⟩, hx⟩
    obtain ⟨k, h1, h2, h3⟩ := key n ⟨j, hj, hx⟩
    rw [idx_at h1 h2 h3]
    omega

set_option maxRecDepth 100000 in
set_option maxHeartbeats 400000 in
/-- the pivots have a place just if it is not free -/
theorem sHasP_c (v : Value) (d j : Nat) (c : Nat → Nat) (w : World) (h : Ints w v d (fun i => ((c i : Nat) : Int))) (hd : d ≤ 1048576) :
    Calls Try.prog 159 #[v, .int .i64 j] w fun e w' => e = .returned (.bool (!frB c d j)) ∧ w = w' := by
  obtain ⟨q, hq⟩ : ∃ q, idx (fun i => ((c i : Nat) : Int)) (j : Int) d = q := ⟨_, rfl⟩
  have hI : Hid (Calls Try.prog 164 #[v, .int .i64 j] w fun e w' => e = .returned (.int .i64 q) ∧ w = w') := hq ▸ sIndex_c v d (fun i => ((c i : Nat) : Int)) (j : Int) w h
  have hb : Hid (decide (0 ≤ q) = !frB c d j) := by
    have h1 := idx_nonneg (fun i => ((c i : Nat) : Int)) (j : Int) d
    rw [hq] at h1
    show decide (0 ≤ q) = !frB c d j
    cases hf : frB c d j
    · have hl := pvt_le c d j
      have hne : pvt c d j ≠ d := by simpa [frB] using hf
      have := pvt_is (show pvt c d j < d by omega)
      simp only [Bool.not_false, decide_eq_true_eq]
      exact h1.2 ⟨pvt c d j, by omega, by show ((c (pvt c d j) : Nat) : Int) = j; rw [this]⟩
    · have he : pvt c d j = d := by simpa [frB] using hf
      simp only [Bool.not_true, decide_eq_false_iff_not]
      intro h0
      obtain ⟨i, hi, hx⟩ := h1.1 h0
      exact pvt_none he hi (by exact_mod_cast hx)
  clear hq
  go_enter Try.func159, Try.ntmps159
  go_wp2_with fail
  refine hI.out.mono ?_
  rintro e w1 ⟨rfl, rfl⟩
  go_wp2
  go_ret
  exact ⟨by rw [← hb.out]; rfl, rfl⟩

set_option maxRecDepth 100000 in
set_option maxHeartbeats 1000000 in
theorem sUnit2_c (n : Nat) (w : World) (hn : n ≤ 1048576) :
    Calls Try.prog 138 #[.int .i64 n] w fun e w' => CopyT w w' e n (fun _ => n) dltU := by
  have ba : Below w.heap.size w (w.alloc (.cells #[] 24)) := (Below.refl _ _).alloc (Nat.le_refl _) _
  go_enter Try.func138, Try.ntmps138
  go_wp2
  go_loopg [3, 4] n (fun g o i wr => ∃ k : Nat, k ≤ n ∧ g = n - k ∧ i = .int .i64 k ∧ Below w.heap.size w wr ∧ ∃ g' c', o = .slice (some ⟨g', 0, none⟩) k c' ∧ OTab wr w.heap.size g' c' k (fun _ => n) dltU)
  case atStart => exact ⟨0, Nat.zero_le _, rfl, rfl, ba, _, _, rfl, (OTab.empty w).congr (fun i hi => absurd hi (Nat.not_lt_zero _)) (fun i j hi => absurd hi (Nat.not_lt_zero _))⟩
  case round =>
    obtain ⟨k, hk, rfl, rfl, hb, g', c', rfl, hT⟩ := hrel
    by_cases hlt : k < n
    · obtain ⟨V, hV, hpush⟩ := hT.pushAt hb.size
      have HP := Lib.hid hpush
      have hgB := hT.base
      have i0 : (0 : Int) ≤ (k : Int) := by omega
      have i1 : (k : Int) < (n : Int) := by omega
      clear hpush
      have hmk : ∀ W1 : World, Below wr.heap.size wr W1 → Own W1 2 wr.heap.size n n (fun _ => .int .i64 0) → Hid (Own (W1.setCell ⟨wr.heap.size, k, none⟩ (.int .i64 1)) 2 wr.heap.size n n (fun j => .int .i64 (dltU k j)) ∧ Below wr.heap.size wr (W1.setCell ⟨wr.heap.size, k, none⟩ (.int .i64 1))) := fun W1 h1 h2 =>
        ⟨(h2.set k _).congr fun j hj => by unfold dltU; by_cases e : j = k <;> simp [e], h1.setCell (p := ⟨wr.heap.size, k, none⟩) (Nat.le_refl _) _⟩
      have HMK := Lib.hid hmk
      clear hmk
      go_wp2_with (first
        | (at_make; refine wpList_mkA _ rfl _ _ _ _ elI rfl rfl .i64 .i64 n rfl rfl (by omega) (by omega) ?_; intro W1 hB1 hS1 hO1; have hu := hO1.cell hlt; have hf := hO1.frozen k; obtain ⟨hO2, hB2⟩ := (HMK.out W1 hB1 hO1).out; have hV2 := hV.kept hB2; clear hS1)
        | (at_builtin; go_must (refine wpList_push _ rfl _ _ _ _ elR rfl hV2 (.slice (some ⟨wr.heap.size, 0, none⟩) n n) rfl (by rw [setCell_size]; rfl) rfl (by omega) (by omega) ?_); intro g3 c3 w3 hO3 hg3 hgr3))
      go_roundg (n - (k + 1))
      case measure => omega
      case rel =>
        have hs := hb.size
        have hs4 := hB2.size
        exact ⟨k + 1, by omega, rfl, by go_num, (hb.trans (hB2.mono hs)).grown hgr3 (by omega) (fun q e => by injection e with e; omega), g3, c3, rfl, (HP.out _ _ _ _ _ _ _ _ hB2 hO2 (Nat.le_refl _) hO3 hg3 hgr3).congr (fun i hi => by by_cases e : i = k <;> simp [e]) (fun i j hi hj => by by_cases e : i = k <;> simp [e])⟩
    · obtain rfl : k = n := by omega
      go_wp2
      go_ret
      exact ⟨g', c', rfl, hb, hT⟩

end Go.Proofs.Ytnkflgigbielgaa

/-
  The kernel by the reference. No condition beside sizes.
-/
set_option linter.unusedVariables false
set_option linter.unusedSimpArgs false
namespace Go.Proofs.Ytnkflgigbielgaa
open Go.RowKit

theorem Red.lddc {p : Int} {n d : Nat} {T : Nat → Nat → Int} {c : Nat → Nat} (h : Red p n d T c) : Red p n d T (fun r => Go.Proofs.Ytnkflgigbielgaa.ldd n (T r)) :=
  ⟨h.inp, fun r hr => by show Go.Proofs.Ytnkflgigbielgaa.ldd n (T r) < n; rw [h.ldd hr]; exact h.piv r hr, fun r s hrs hs => by show Go.Proofs.Ytnkflgigbielgaa.ldd n (T r) < Go.Proofs.Ytnkflgigbielgaa.ldd n (T s); rw [h.ldd (show r < d by omega), h.ldd hs]; exact h.inc r s hrs hs,
    fun r hr => by show T r (Go.Proofs.Ytnkflgigbielgaa.ldd n (T r)) = 1; rw [h.ldd hr]; exact h.one r hr, fun r s hr hs hne => by show T s (Go.Proofs.Ytnkflgigbielgaa.ldd n (T r)) = 0; rw [h.ldd hr]; exact h.oth r s hr hs hne,
    fun r j hr hj => by have hj : j < Go.Proofs.Ytnkflgigbielgaa.ldd n (T r) := hj; rw [h.ldd hr] at hj; exact h.lead r j hr hj⟩
theorem cB {w W : World} {a : Addr} {u : Value} (h : W.cell? a = some u ∧ Below w.heap.size w W) : Below w.heap.size w W := h.2
theorem sel_le {p : Nat → Bool} {m i : Nat} (h : i < cnt p m) : ∀ e, sel p (m + e) i = sel p m i
  | 0 => rfl
  | e + 1 => by
    have h2 : i < cnt p (m + e) := by
      have : ∀ q, cnt p m ≤ cnt p (m + q) := fun q => by
        induction q with
        | zero => exact Nat.le_refl _
        | succ q ih => show _ ≤ cnt p (m + q) + _; omega
      have := this e; omega
    rw [show m + (e + 1) = (m + e) + 1 from rfl, sel_old h2]
    exact sel_le h e
theorem kvK_succ (p : Int) (T : Nat → Nat → Int) (c : Nat → Nat) (f k j : Nat) : kvK p T c f (k + 1) j = if j = c k then (-(T k f)) % p else kvK p T c f k j := rfl
theorem cnt_no {f : Nat → Bool} {k : Nat} (h : f k = false) : cnt f (k + 1) = cnt f k := by simp [cnt, h]
theorem cnt_yes {f : Nat → Bool} {k : Nat} (h : f k = true) : cnt f (k + 1) = cnt f k + 1 := by simp [cnt, h]

set_option maxRecDepth 100000 in
set_option maxHeartbeats 4000000 in
theorem sKernel_c (p : Int) (v : Value) (G n : Nat) (T : Nat → Nat → Int) (w : World) (h : Tab w v G (fun _ => n) T) (hn : 1 ≤ n ∧ n ≤ 1048576) (hG : 1 ≤ G ∧ G ≤ 1048576) (hpr : primeB p = true) (hT : RowsIn p G n T) :
    Calls Try.prog 139 #[.int .i64 p, v] w fun e w' => CopyT w w' e (kerS p n (bSt p G T n)).2 (fun _ => n) (kerS p n (bSt p G T n)).1 := by
  have hp := primeB_bd hpr
  have hp0 : p ≠ 0 := by omega
  obtain ⟨c0, hRed0, _, _⟩ := bSt_red hpr hT
  have hdle := (bSt_in (p := p) (n := n) (by omega) hT n).2
  have hBas : ∀ W, Below w.heap.size w W → Calls Try.prog 157 #[.int .i64 p, v] W fun e w' => CopyT W w' e (bSt p G T n).2 (fun _ => n) (bSt p G T n).1 := fun W hb => sBasis_c p v G n T W (h.below hb) hn hG.2 hpr hT
  obtain ⟨ao, cc, b, o, A, C, RB, RO, rfl, p2, p3, p4, p5, p6, p7, p8⟩ := h.out
  obtain rfl := p4 (by omega)
  have y0 : w.cell? ⟨b, o, none⟩ = some (.slice (A 0) n (C 0)) := by have := p5 0 (by omega); rwa [Nat.add_zero] at this
  have hbl := lt_of_cell y0
  generalize hQ : bSt p G T n = Q at hRed0 hBas hdle ⊢
  obtain ⟨S, d⟩ := Q
  have hRed : Red p n d S (fun r => ldd n (S r)) := hRed0.lddc
  have hdle : d ≤ G ∧ d ≤ n := hdle
  obtain ⟨c, hc⟩ : ∃ c : Nat → Nat, (fun r => ldd n (S r)) = c := ⟨_, rfl⟩
  have hker : kerS p n (S, d) = bSt p (cnt (frB c d) n) (kerT p n d S c) n := by unfold kerS; rw [← hc]
  have hcl : ∀ r, r < d → ldd n (S r) = c r := fun r _ => by rw [← hc]
  rw [hker]
  rw [hc] at hRed
  have HRed := Lib.hid hRed
  have HCL := Lib.hid hcl
  have HBas := Lib.hid hBas
  obtain ⟨Z, hZ⟩ : ∃ Z, bSt p (cnt (frB c d) n) (kerT p n d S c) n = Z := ⟨_, rfl⟩
  have HZ := Lib.hid hZ
  rw [hZ]
  have hZd : Z.2 ≤ n := by
    have h1 := (bSt_of hpr (kerT_in (p := p) (by omega) n d S c (cnt (frB c d) n))).le
    rwa [hZ] at h1
  clear h p4 p5 p6 p7 p8 hRed hRed0 hcl hBas hc hker hQ hZ hT
  have hG1 : (0 : Int) < (G : Int) := by omega
  have hG2 : 0 < G := hG.1
  go_enter Try.func139, Try.ntmps139
  go_wp2
  go_region_held3 (fun W => W.cell? ⟨b, o, none⟩ = some (.slice (A 0) n (C 0)) ∧ Below w.heap.size w W)
    ((first | assumption | exact ⟨cellKp (drewB _) y0, drewB _⟩ | exact And.intro (by assumption) (by assumption)))
    ((first | (go_at_call 157; refine (HBas.out _ (cB (a := ⟨b, o, none⟩) (u := .slice (A 0) n (C 0)) (by assumption))).mono ?_; rintro e w2 ⟨g0, cap0, rfl, hb2, hO2⟩; have hbp := (cB (a := ⟨b, o, none⟩) (u := .slice (A 0) n (C 0)) (by assumption)); have hbw : Below w.heap.size w w2 := hbp.trans (hb2.mono hbp.size); have hcw : w2.cell? ⟨b, o, none⟩ = some (.slice (A 0) n (C 0)) := cellKp hbw y0; have hO2 := Lib.hid (hO2.mono hbp.size); have hS2 : w2.cell? ⟨b, o, none⟩ = some (.slice (A 0) n (C 0)) ∧ Below w.heap.size w w2 := ⟨hcw, hbw⟩; clear hbp)))
  have hgb0 := hO2.out.base
  have hOM := hO2.out.bound
  obtain ⟨U, hU⟩ : ∃ U, w2.heap.size = U := ⟨_, rfl⟩
  rw [hU] at hOM
  have hwU : w.heap.size ≤ U := by rw [← hU]; exact hbw.size
  have hE1 : Hid (Own ((w2.alloc (.cells #[] 2)).alloc (.cells #[] 24)) 2 U 0 0 (fun i => .int .i64 ((c i : Nat) : Int))) := by rw [← hU]; exact (Own.empty w2 2 _).alloc _
  have hE2 : Hid (Own ((w2.alloc (.cells #[] 2)).alloc (.cells #[] 24)) 24 (U + 1) 0 0 (fun _ => .int .i64 0)) := by
    have h := Own.empty (w2.alloc (.cells #[] 2)) 24 (fun _ => .int .i64 0)
    rw [alloc_size, hU] at h
    exact h
  have hB3 : Below w2.heap.size w2 ((w2.alloc (.cells #[] 2)).alloc (.cells #[] 24)) := ((Below.refl _ _).alloc (Nat.le_refl _) _).alloc (by simp) _
  have hOM3 := Lib.hid (hOM.kept hB3)
  have hb3 := Lib.hid (hbw.trans (hB3.mono hbw.size))
  clear hOM hB3 hcw hS2 hb2 hO2 hbw
  go_wp2_with fail
  go_loopg [7, 9] d (fun g s i wr => ∃ k : Nat, k ≤ d ∧ g = d - k ∧ i = .int .i64 k ∧ ∃ gp cp, s = .slice (some ⟨gp, 0, none⟩) k cp ∧ U ≤ gp ∧ gp ≠ U + 1 ∧ Hid (Below w.heap.size w wr) ∧ Hid (Own wr 2 gp cp k (fun i => .int .i64 ((c i : Nat) : Int))) ∧ Hid (OTabM wr w.heap.size U g0 cap0 d (fun _ => n) S) ∧ Hid (Own wr 24 (U + 1) 0 0 (fun _ => .int .i64 0)))
  case atStart => exact ⟨0, Nat.zero_le _, rfl, rfl, U, 0, by first | rfl | simp [hU], Nat.le_refl _, by omega, hb3.out, hE1.out, hOM3.out, hE2.out⟩
  case round =>
    obtain ⟨k, hk, rfl, rfl, gp, cp, rfl, hgU, hgne, hb, hP, hOM, hL⟩ := hrel
    clear hb3 hE1 hE2 hOM3
    by_cases hkd : k < d
    · obtain ⟨r, cr, hcell, hrow⟩ := hOM.out.row hkd
      have HF : Hid (Calls Try.prog 158 #[.slice (some ⟨r, 0, none⟩) n cr] wr fun e w' => e = .returned (.int .i64 ((c k : Nat) : Int)) ∧ wr = w') := by
        have h := sFirst_c _ n (S k) wr hrow (by omega) (by rw [HCL.out k hkd]; exact HRed.out.piv k hkd)
        rw [HCL.out k hkd] at h
        exact h
      have i0 : (0 : Int) ≤ (k : Int) := by omega
      have i1 : (k : Int) < (d : Int) := by omega
      have hPP := hP.out
      clear hrow
      go_wp2_with (first
        | (go_at_call 158; refine HF.out.mono ?_; rintro e w' ⟨rfl, rfl⟩)
        | (at_builtin; go_must (refine wpList_push _ rfl _ _ _ _ elI rfl hPP (.int .i64 ((c k : Nat) : Int)) rfl rfl rfl (by omega) (by omega) ?_); intro g3 c3 w3 hO3 hg3 hgr3))
      go_roundg (d - (k + 1))
      case measure => omega
      case rel =>
        have hs := hb.out.size
        have hl := hL.out.lt
        have hgl := hPP.lt
        refine ⟨k + 1, by omega, rfl, by go_num, g3, c3, rfl, by omega, by omega, hb.out.grown hgr3 hs (fun q e => by injection e with e; omega), hO3.congr fun i hi => ?_, hOM.out.grown hgr3 (Or.inr hgU), hL.out.grown hgr3 (by intro e; injection e with e; omega)⟩
        by_cases e : i = k
        · subst e; simp
        · simp [e]
    · obtain rfl : k = d := by omega
      have hT0 : Hid (OTab wr U (U + 1) 0 (cnt (frB c k) 0) (fun _ => n) (kerT p n k S c)) := ⟨fun _ => 0, fun _ => 0, ⟨hL.out.out.imp fun cur h => ⟨h.1, h.2.1, fun i hi => absurd hi (Nat.not_lt_zero _)⟩, Nat.zero_le _, Nat.zero_le _⟩, Nat.le_succ U, fun i hi => absurd hi (Nat.not_lt_zero _), fun i j hi => absurd hi (Nat.not_lt_zero _)⟩
      clear hL
      go_wp2_with fail
      go_loopg [8, 10] n (fun g s i wr => ∃ j : Nat, j ≤ n ∧ g = n - j ∧ i = .int .i64 j ∧ ∃ gl cl, s = .slice (some ⟨gl, 0, none⟩) (cnt (frB c k) j) cl ∧ U ≤ gl ∧ gl ≠ gp ∧ Hid (Below w.heap.size w wr) ∧ Hid (Own wr 2 gp cp k (fun i => .int .i64 ((c i : Nat) : Int))) ∧ Hid (OTabM wr w.heap.size U g0 cap0 k (fun _ => n) S) ∧ Hid (OTab wr U gl cl (cnt (frB c k) j) (fun _ => n) (kerT p n k S c)))
      case atStart => exact ⟨0, Nat.zero_le _, rfl, rfl, U + 1, 0, by first | rfl | simp [hU, cnt], Nat.le_succ U, fun e => hgne e.symm, hb.out, hP.out, hOM.out, hT0.out⟩
      case round =>
        obtain ⟨j, hj, rfl, rfl, gl, cl, rfl, hglU, hglne, hb', hP', hOM', hT'⟩ := hrel
        clear hb hP hOM hT0
        obtain ⟨wo, rfl⟩ : ∃ wo, wo = wr := ⟨_, rfl⟩
        by_cases hjn : j < n
        · have HH : Hid (Calls Try.prog 159 #[.slice (some ⟨gp, 0, none⟩) k cp, .int .i64 j] wo fun e w' => e = .returned (.bool (!frB c k j)) ∧ wo = w') := sHasP_c _ k j c wo hP'.out.ints (by omega)
          cases hfr : frB c k j
          · rw [hfr] at HH
            have hc1 := cnt_no hfr
            go_wp2_with (first | (go_at_call 159; refine HH.out.mono ?_; rintro e w' ⟨rfl, rfl⟩))
            go_roundg (n - (j + 1))
            case measure => omega
            case rel => exact ⟨j + 1, by omega, rfl, by go_num, gl, cl, by rw [hc1], hglU, hglne, hb'.out, hP'.out, hOM'.out, by rw [hc1]; exact hT'.out⟩
          · rw [hfr] at HH
            have hc1 := cnt_yes hfr
            have i0 : (0 : Int) ≤ (j : Int) := by omega
            have i1 : (j : Int) < (n : Int) := by omega
            obtain ⟨V, hV, hpush⟩ := hT'.out.pushAt (show U ≤ wo.heap.size by have := hT'.out.lt; omega)
            have HP := Lib.hid hpush
            have HV := Lib.hid hV
            have hcl := cnt_le (frB c k) j
            have HMK : Hid (∀ W1 : World, Below wo.heap.size wo W1 → Own W1 2 wo.heap.size n n (fun _ => .int .i64 0) → Hid (Own (W1.setCell ⟨wo.heap.size, j, none⟩ (.int .i64 1)) 2 wo.heap.size n n (fun i => .int .i64 (kvK p S c j 0 i)) ∧ Below wo.heap.size wo (W1.setCell ⟨wo.heap.size, j, none⟩ (.int .i64 1)))) := fun W1 h1 h2 =>
              ⟨(h2.set j _).congr fun i hi => by unfold kvK; by_cases e : i = j <;> simp [e], h1.setCell (p := ⟨wo.heap.size, j, none⟩) (Nat.le_refl _) _⟩
            obtain ⟨gv, hgv⟩ : ∃ gv, wo.heap.size = gv := ⟨_, rfl⟩
            have hgvU : U ≤ gv := by have := hT'.out.lt; omega
            rw [hgv] at HMK
            have HGV := Lib.hid hgv
            have HFR := Lib.hid hfr
            have HC1 := Lib.hid hc1
            clear hpush hV hfr hc1
            go_wp2_with (first
              | (go_at_call 159; refine HH.out.mono ?_; rintro e w' ⟨rfl, rfl⟩)
              | (at_make; refine wpList_mkA _ rfl _ _ _ _ elI rfl rfl .i64 .i64 n rfl rfl (by omega) (by omega) ?_; rw [hgv]; intro W1 hB1 hS1 hO1; have hu := hO1.cell hjn; have hf := hO1.frozen j; have HO2 := HMK.out W1 hB1 hO1; clear hS1))
            obtain ⟨hOv, hBv⟩ := HO2.out
            clear hu hf hB1 hO1 HO2 HMK
            go_loopg [12] k (fun g i wq => ∃ q : Nat, q ≤ k ∧ g = k - q ∧ i = .int .i64 q ∧ Hid (Below gv wo wq) ∧ Hid (Own wq 2 gv n n (fun i => .int .i64 (kvK p S c j q i))))
            case atStart => exact ⟨0, Nat.zero_le _, rfl, rfl, hBv, hOv⟩
            case round =>
              obtain ⟨q, hq, rfl, rfl, hbq', hOq⟩ := hrel
              clear hBv hOv
              have hbq : Below wo.heap.size wo wr := by rw [HGV.out]; exact hbq'.out
              by_cases hqk : q < k
              · obtain ⟨RR, RC, w1, w2, w3, w4⟩ := (hOM'.out.kept hbq).out
                have e1 := (hP'.out.kept hbq).cell hqk
                have e2 := w1.cell hqk
                have e3 := (w3 q hqk).1.cell hjn
                obtain ⟨x, hx⟩ : ∃ x, S q j = x := ⟨_, rfl⟩
                have hxb := HRed.out.inp q hqk j hjn
                rw [hx] at e3 hxb
                have hwn : IntKind.i64.wrap (p - x) = p - x := wrap_in _ (by omega)
                obtain ⟨z, hz⟩ : ∃ z, (-x) % p = z := ⟨_, rfl⟩
                have htm : Int.tmod (p - x) p = z := by
                  rw [Int.tmod_eq_emod_of_nonneg (by omega), ← hz]
                  have e : p - x = -x + p * 1 := by omega
                  rw [e, Int.add_mul_emod_self_left]
                have hcq := HRed.out.piv q hqk
                have e4 := hOq.out.cell hcq
                have e5 := hOq.out.frozen (c q)
                have HX := Lib.hid hx
                have HZ2 := Lib.hid hz
                have t0 : (0 : Int) ≤ (q : Int) := by omega
                have t1 : (q : Int) < (k : Int) := by omega
                have t2 : (0 : Int) ≤ (c q : Int) := by omega
                have t3 : (c q : Int) < (n : Int) := by omega
                clear hx hz w1 w3 w4 hbq
                go_wp2
                go_region_law (fail)
                all_goals go_wp2
                all_goals go_roundg (k - (q + 1))
                all_goals first
                  | omega
                  | exact ⟨q + 1, by omega, rfl, by go_num, (hbq'.out.setCell (p := ⟨gv, c q, none⟩) (Nat.le_refl _) _).drew, ((hOq.out.set (c q) _).drew).congr fun i hi => by
                      rw [kvK_succ]
                      by_cases e : i = c q
                      · rw [if_pos e, if_pos e, HX.out, HZ2.out]
                      · rw [if_neg e, if_neg e]⟩
              · obtain rfl : q = k := by omega
                have hV2 := HV.out.kept hbq
                go_wp2_with (at_builtin; go_must (refine wpList_push _ rfl _ _ _ _ elR rfl hV2 (.slice (some ⟨gv, 0, none⟩) n n) rfl rfl rfl (by omega) (by omega) ?_); intro g3 c3 w3 hO3 hg3 hgr3)
                go_roundg (n - (j + 1))
                case measure => omega
                case rel =>
                  have hs1 := hb'.out.size
                  have hs2 := hbq.size
                  have hgl := hT'.out.lt
                  have hgpl := hP'.out.lt
                  refine ⟨j + 1, by omega, rfl, by go_num, g3, c3, by rw [HC1.out], by omega, by omega, (hb'.out.trans (hbq.mono hs1)).grown hgr3 (by omega) (fun q e => by injection e with e; omega), (hP'.out.kept hbq).grown hgr3 (by intro e; injection e with e; omega), (hOM'.out.kept hbq).grown hgr3 (Or.inr hglU), ?_⟩
                  show OTab _ U g3 c3 (cnt (frB c q) (j + 1)) (fun _ => n) (kerT p n q S c)
                  rw [HC1.out]
                  refine (HP.out _ _ _ _ _ _ _ _ hbq hOq.out (Nat.le_of_eq HGV.out) hO3 hg3 hgr3).congr (fun i hi => by by_cases e : i = cnt (frB c q) j <;> simp [e]) fun i i' hi hi' => ?_
                  by_cases e : i = cnt (frB c q) j
                  · rw [if_pos e, e]
                    unfold kerT
                    have e2 := sel_new (p := frB c q) HFR.out
                    have e3 := sel_le (p := frB c q) (m := j + 1) (i := cnt (frB c q) j) (by rw [HC1.out]; omega) (n - (j + 1))
                    rw [show j + 1 + (n - (j + 1)) = n by omega, e2] at e3
                    rw [e3]
                    exact kvK_eq HRed.out HFR.out i'
                  · rw [if_neg e]
        · obtain rfl : j = n := by omega
          have hml := cnt_le (frB c k) j
          have HB2 : Hid (Calls Try.prog 157 #[.int .i64 p, .slice (some ⟨gl, 0, none⟩) (cnt (frB c k) j) cl] wo fun e w' => CopyT wo w' e Z.2 (fun _ => j) Z.1) := by
            have h := sBasis_c p _ (cnt (frB c k) j) j (kerT p j k S c) wo hT'.out.tab hn (by omega) hpr (kerT_in (by omega) j k S c _)
            rw [HZ.out] at h
            exact h
          go_wp2_with fail
          go_at_call 157
          refine HB2.out.mono ?_
          rintro e w4 ⟨g4, c4, rfl, hb4, hO4⟩
          go_wp2_with fail
          go_at_call 144
          refine (sOwn2_c _ Z.2 j Z.1 _ hO4.tab hn.1 (by omega) (by omega)).mono ?_
          rintro e w5 ⟨g5, c5, rfl, hb5, hO5⟩
          have hs1 := hb'.out.size
          have hs4 := hb4.size
          go_wp2
          go_ret
          exact ⟨g5, c5, rfl, (hb'.out.trans (hb4.mono hs1)).trans (hb5.mono (by omega)), hO5.mono (by omega)⟩

end Go.Proofs.Ytnkflgigbielgaa

/-
  The kernel by the program: a map of the places, in whatever order it is gone over. No condition beside sizes.
-/
set_option linter.unusedVariables false
set_option linter.unusedSimpArgs false
namespace Go.Proofs.Ytnkflgigbielgaa
open Go.RowKit
open Go.Maps (Keyed IsMap)

/-- the map of the places of the first k rows -/
def mD (c : Nat → Nat) : Nat → DataW Unit
  | 0 => .map []
  | k + 1 => (mD c k).put (.int .i64 ((c k : Nat) : Int)) (.lit (.int .i64 ((k : Nat) : Int)))
theorem mD_map (c : Nat → Nat) : ∀ k, IsMap (mD c k)
  | 0 => Maps.isMap_empty
  | k + 1 => (mD_map c k).put _ _
theorem key_ne {a b : Int} (h : a ≠ b) : Lit.int .i64 a ≠ Lit.int .i64 b := fun e => by injection e with _ e; exact h e
theorem mD_has (c : Nat → Nat) (x : Int) : ∀ d, Maps.has (mD c d) (.int .i64 x) = true ↔ ∃ r, r < d ∧ ((c r : Nat) : Int) = x
  | 0 => ⟨fun h => by simp [mD, Maps.has_eq] at h, fun ⟨r, hr, _⟩ => absurd hr (Nat.not_lt_zero _)⟩
  | d + 1 => by
    have ih := mD_has c x d
    by_cases e : x = ((c d : Nat) : Int)
    · subst e
      exact ⟨fun _ => ⟨d, by omega, rfl⟩, fun _ => Maps.has_put_same (mD_map c d) (show WideAt.IsKeyLit (.int .i64 ((c d : Nat) : Int)) from trivial) _⟩
    · have h2 : Maps.has (mD c (d + 1)) (.int .i64 x) = Maps.has (mD c d) (.int .i64 x) := Maps.has_put_other (key_ne e) _
      rw [h2, ih]
      exact ⟨fun ⟨r, q1, q2⟩ => ⟨r, by omega, q2⟩, fun ⟨r, q1, q2⟩ => by
        by_cases e2 : r = d
        · rw [e2] at q2; exact absurd q2.symm e
        · exact ⟨r, by omega, q2⟩⟩
theorem mD_at (c : Nat → Nat) (z : DataW Unit) : ∀ d, (∀ r s, r < d → s < d → r ≠ s → c r ≠ c s) → ∀ r, r < d → (mD c d).atKey (.int .i64 ((c r : Nat) : Int)) z = .lit (.int .i64 ((r : Nat) : Int))
  | 0, _, r, hr => absurd hr (Nat.not_lt_zero _)
  | d + 1, hi, r, hr => by
    by_cases e : r = d
    · subst e; exact Maps.atKey_put_same (mD_map c r) (show WideAt.IsKeyLit (.int .i64 ((c r : Nat) : Int)) from trivial) _ _
    · have h2 : (mD c (d + 1)).atKey (.int .i64 ((c r : Nat) : Int)) z = (mD c d).atKey (.int .i64 ((c r : Nat) : Int)) z := Maps.atKey_put_other (key_ne (by have := hi r d (by omega) (by omega) e; omega)) _ _
      rw [h2]
      exact mD_at c z d (fun a b ha hb => hi a b (by omega) (by omega)) r (by omega)
theorem frB_iff (c : Nat → Nat) (d j : Nat) : frB c d j = true ↔ ∀ r, r < d → c r ≠ j := by
  have hl := pvt_le c d j
  constructor
  · intro h r hr
    exact pvt_none (by simpa [frB] using h) hr
  · intro h
    by_cases e : pvt c d j < d
    · exact absurd (pvt_is e) (h _ e)
    · simp [frB]; omega
theorem mD_free (c : Nat → Nat) (d j : Nat) : Maps.has (mD c d) (.int .i64 ((j : Nat) : Int)) = !frB c d j := by
  have h1 := mD_has c (j : Int) d
  have h2 := frB_iff c d j
  cases hf : frB c d j
  · have : ¬ ∀ r, r < d → c r ≠ j := fun h => by rw [h2.2 h] at hf; cases hf
    refine h1.2 ?_
    exact Classical.byContradiction fun hne => this fun r hr e => hne ⟨r, hr, by omega⟩
  · cases hh : Maps.has (mD c d) (.int .i64 ((j : Nat) : Int))
    · rfl
    · obtain ⟨r, hr, e⟩ := h1.1 hh
      exact absurd (by omega) (h2.1 hf r hr)

/-- the list of a free place, but for the places still to come -/
def kvL (p : Int) (d : Nat) (T : Nat → Nat → Int) (c : Nat → Nat) (f : Nat) (left : Lit → Bool) (i : Nat) : Int :=
  if i = f then 1 else if pvt c d i < d then (if left (.int .i64 ((i : Nat) : Int)) then 0 else (-(T (pvt c d i) f)) % p) else 0
theorem kvL_start {p : Int} {d : Nat} {T : Nat → Nat → Int} {c : Nat → Nat} {f i : Nat} : kvL p d T c f (Maps.has (mD c d)) i = if i = f then 1 else 0 := by
  unfold kvL
  split
  · rfl
  · split
    · rename_i h
      rw [if_pos ((mD_has c _ d).2 ⟨_, h, by rw [pvt_is h]⟩)]
    · rfl
theorem kvL_end {p : Int} {d : Nat} {T : Nat → Nat → Int} {c : Nat → Nat} {f i : Nat} {left : Lit → Bool} (h : ∀ kl, left kl = false) : kvL p d T c f left i = kvF p d T c f i := by
  unfold kvL kvF
  simp [h]
theorem pvt_red {p : Int} {n d : Nat} {T : Nat → Nat → Int} {c : Nat → Nat} (h : Red p n d T c) {r : Nat} (hr : r < d) : pvt c d (c r) = r := pvt_at hr fun s hs => h.inj (by omega) hr (by omega)
theorem kvL_step {p : Int} {n d : Nat} {T : Nat → Nat → Int} {c : Nat → Nat} (h : Red p n d T c) {f r : Nat} (hr : r < d) (hf : frB c d f = true) (left : Lit → Bool) (i : Nat) :
    kvL p d T c f (fun z => left z && !z.sameKey (.int .i64 ((c r : Nat) : Int))) i = if i = c r then (-(T r f)) % p else kvL p d T c f left i := by
  have hne : c r ≠ f := (frB_iff c d f).1 hf r hr
  unfold kvL
  by_cases e : i = c r
  · subst e
    rw [if_neg hne, if_pos rfl, pvt_red h hr, if_pos hr, if_neg (by simp [Lit.sameKey])]
  · rw [if_neg e]
    have : (Lit.int .i64 ((i : Nat) : Int)).sameKey (.int .i64 ((c r : Nat) : Int)) = false := Maps.sameKey_ne (key_ne (by omega))
    simp only [this, Bool.not_false, Bool.and_true]

theorem kInt : Keyed Try.prog 3 := Maps.int_keyed Try.underlying3
theorem zInt (w : World) : (zeroValue 3).run Try.prog w = .ok (.int .i64 0) w := by kernel_rfl

end Go.Proofs.Ytnkflgigbielgaa

/-
  The kernel by the program: the walk. No condition beside sizes.
-/
set_option linter.unusedVariables false
set_option linter.unusedSimpArgs false
namespace Go.Proofs.Ytnkflgigbielgaa
open Go.RowKit

theorem grown_none {w w' : World} (h : Below w.heap.size w w') : w.grownBy w' none := ⟨h.os, h.tape, h.output, h.size, fun k hk _ => h.block k hk⟩
theorem grown_set (w : World) (a : Addr) (u : Value) : w.grownBy (w.setCell a u) (some a.block) := ⟨rfl, rfl, rfl, by rw [setCell_size]; exact Nat.le_refl _, fun k hk hne => Below.heap_setCell _ _ _ _ (fun e => hne (by rw [e]))⟩

set_option maxRecDepth 100000 in
set_option maxHeartbeats 4000000 in
theorem iKernel_c (p : Int) (v : Value) (G n : Nat) (T : Nat → Nat → Int) (w : World) (h : Tab w v G (fun _ => n) T) (hn : 1 ≤ n ∧ n ≤ 1048576) (hG : G ≤ 1048576) (hpr : primeB p = true) (hT : RowsIn p G n T) :
    Calls Try.prog 137 #[.int .i64 p, v, .int .i64 n] w fun e w' => CopyT w w' e (kerS p n (bSt p G T n)).2 (fun _ => n) (kerS p n (bSt p G T n)).1 := by
  have hp := primeB_bd hpr
  have hp0 : p ≠ 0 := by omega
  obtain ⟨c0, hRed0, _, _⟩ := bSt_red hpr hT
  have hdle := (bSt_in (p := p) (n := n) (by omega) hT n).2
  have hBas := iBasis_c p v G n T w h hn hG hp hT
  generalize hQ : bSt p G T n = Q at hRed0 hBas hdle ⊢
  obtain ⟨S, d⟩ := Q
  have hRed : Red p n d S (fun r => ldd n (S r)) := hRed0.lddc
  have hdle : d ≤ G ∧ d ≤ n := hdle
  obtain ⟨c, hc⟩ : ∃ c : Nat → Nat, (fun r => ldd n (S r)) = c := ⟨_, rfl⟩
  have hker : kerS p n (S, d) = bSt p (cnt (frB c d) n) (kerT p n d S c) n := by unfold kerS; rw [← hc]
  have hcl : ∀ r, r < d → ldd n (S r) = c r := fun r _ => by rw [← hc]
  rw [hker]
  rw [hc] at hRed
  have HRed := Lib.hid hRed
  have HCL := Lib.hid hcl
  have HBas := Lib.hid hBas
  obtain ⟨Z, hZ⟩ : ∃ Z, bSt p (cnt (frB c d) n) (kerT p n d S c) n = Z := ⟨_, rfl⟩
  have HZ := Lib.hid hZ
  rw [hZ]
  clear h hRed hRed0 hcl hBas hc hker hQ hZ hT
  have hmm := @run_makeMap Try.prog
  go_enter Try.func137, Try.ntmps137
  go_wp2_with fail
  go_at_call 102
  refine HBas.out.mono ?_
  rintro e w2 ⟨g0, cap0, rfl, hb2, hO2⟩
  have hOM := hO2.bound
  obtain ⟨U, hU⟩ : ∃ U, w2.heap.size = U := ⟨_, rfl⟩
  rw [hU] at hOM
  have hwU : w.heap.size ≤ U := by rw [← hU]; exact hb2.size
  have hB3 : Below w2.heap.size w2 (w2.alloc (.map #[] 0)) := (Below.refl _ _).alloc (Nat.le_refl _) _
  have hM3 : Hid ((w2.alloc (.map #[] 0)).ownsMap Try.prog 3 (plainElem Try.prog 3) U 0 (mD c 0)) := by rw [← hU]; exact World.ownsMap_made _ _ _ _
  have hOM3 := Lib.hid (hOM.kept hB3)
  have hb3 := Lib.hid (hb2.trans (hB3.mono hb2.size))
  clear hOM hB3 hb2 hO2
  go_wp2_with fail
  go_loopg [24] d (fun g i wr => ∃ k : Nat, k ≤ d ∧ g = d - k ∧ i = .int .i64 k ∧ Hid (Below w.heap.size w wr) ∧ Hid (wr.ownsMap Try.prog 3 (plainElem Try.prog 3) U k (mD c k)) ∧ Hid (OTabM wr w.heap.size U g0 cap0 d (fun _ => n) S))
  case atStart => exact ⟨0, Nat.zero_le _, rfl, rfl, hb3.out, hM3.out, hOM3.out⟩
  case round =>
    obtain ⟨k, hk, rfl, rfl, hb, hM, hOM⟩ := hrel
    clear hb3 hM3 hOM3
    by_cases hkd : k < d
    · obtain ⟨r, cr, hcell, hrow⟩ := hOM.out.row hkd
      have hck := HRed.out.piv k hkd
      have HF : Hid (Calls Try.prog 133 #[.slice (some ⟨r, 0, none⟩) n cr] wr fun e w' => e = .returned (.int .i64 ((c k : Nat) : Int)) ∧ wr = w') := by
        have h := iLead_c _ n (S k) wr hrow (by omega)
        rw [HCL.out k hkd] at h
        exact h
      have i0 : (0 : Int) ≤ (k : Int) := by omega
      have i1 : (k : Int) < (d : Int) := by omega
      have hMM := hM.out
      clear hrow
      go_wp2_with (first
        | (go_at_call 133; refine HF.out.mono ?_; rintro e w' ⟨rfl, rfl⟩)
        | (at_mapUpdate; go_must (refine wpList_mapUpdate_own _ rfl _ _ _ 134 rfl 3 3 kInt Try.underlying134 _ U k _ rfl hMM (by unfold maxLen; omega) _ _ _ rfl rfl (Maps.keyOf_int_mk Try.underlying3 (WalkArith.wf_i64 (by omega))) _ [] (plainElem_int Try.underlying3 (WalkArith.wf_i64 (by omega))) ?_); intro w4 hown4 hgr4))
      go_roundg (d - (k + 1))
      case measure => omega
      case rel => exact ⟨k + 1, by omega, rfl, by go_num, hb.out.grown hgr4 hb.out.size (fun q e => by injection e with e; omega), hown4, hOM.out.grown hgr4 (Or.inr (Nat.le_refl _))⟩
    · obtain rfl : k = d := by omega
      have hE2 : Hid (OTab (wr.alloc (.cells #[] 24)) (U + 1) wr.heap.size 0 (cnt (frB c k) 0) (fun _ => n) (kerT p n k S c)) :=
        ((OTab.empty wr).mono (by have := hM.out.lt; omega)).congr (fun i hi => absurd hi (Nat.not_lt_zero _)) (fun i j hi => absurd hi (Nat.not_lt_zero _))
      have hB3 : Below wr.heap.size wr (wr.alloc (.cells #[] 24)) := (Below.refl _ _).alloc (Nat.le_refl _) _
      have hM3 : Hid ((wr.alloc (.cells #[] 24)).ownsMap Try.prog 3 (plainElem Try.prog 3) U k (mD c k)) := hM.out.alloc _
      have hOM3 := Lib.hid (hOM.out.kept hB3)
      have hb3 := Lib.hid (hb.out.trans (hB3.mono hb.out.size))
      have hUlt := hM.out.lt
      clear hB3 hM hOM hb
      go_wp2_with fail
      go_loopg [11, 36] n (fun g s i wr => ∃ j : Nat, j ≤ n ∧ g = n - j ∧ i = .int .i64 j ∧ ∃ gl cl, s = .slice (some ⟨gl, 0, none⟩) (cnt (frB c k) j) cl ∧ U + 1 ≤ gl ∧ Hid (Below w.heap.size w wr) ∧ Hid (wr.ownsMap Try.prog 3 (plainElem Try.prog 3) U k (mD c k)) ∧ Hid (OTabM wr w.heap.size U g0 cap0 k (fun _ => n) S) ∧ Hid (OTab wr (U + 1) gl cl (cnt (frB c k) j) (fun _ => n) (kerT p n k S c)))
      case atStart => exact ⟨0, Nat.zero_le _, rfl, rfl, _, 0, by first | rfl | simp [cnt], by omega, hb3.out, hM3.out, hOM3.out, hE2.out⟩
      case round =>
        obtain ⟨j, hj, rfl, rfl, gl, cl, rfl, hglU, hb', hM', hOM', hT'⟩ := hrel
        clear hb3 hM3 hOM3 hE2
        obtain ⟨wo, rfl⟩ : ∃ wo, wo = wr := ⟨_, rfl⟩
        by_cases hjn : j < n
        · have hMM := hM'.out
          have HF : Hid (Maps.has (mD c k) (.int .i64 ((j : Nat) : Int)) = !frB c k j) := mD_free c k j
          cases hfr : frB c k j
          · rw [hfr] at HF
            have hc1 := cnt_no hfr
            go_wp2_with (first
              | (at_lookup; go_must (refine wpList_lookup_own_ok_int _ rfl _ _ 134 rfl 3 3 .i64 kInt Try.underlying134 Try.underlying3 (zInt _) U k _ rfl hMM _ _ rfl (Maps.keyOf_int_mk Try.underlying3 (WalkArith.wf_i64 (by omega))) ?_); intro cv hat hwc; rw [HF.out]))
            go_roundg (n - (j + 1))
            case measure => omega
            case rel => exact ⟨j + 1, by omega, rfl, by go_num, gl, cl, by rw [hc1], hglU, hb'.out, hM'.out, hOM'.out, by rw [hc1]; exact hT'.out⟩
          · rw [hfr] at HF
            have hc1 := cnt_yes hfr
            have i0 : (0 : Int) ≤ (j : Int) := by omega
            have i1 : (j : Int) < (n : Int) := by omega
            have hUw : U < wo.heap.size := hM'.out.lt
            obtain ⟨V, hV, hpush⟩ := hT'.out.pushAt (show U + 1 ≤ wo.heap.size by omega)
            have HP := Lib.hid hpush
            have HV := Lib.hid hV
            have hcl := cnt_le (frB c k) j
            obtain ⟨gv, hgv⟩ : ∃ gv, wo.heap.size = gv := ⟨_, rfl⟩
            have HMK : Hid (∀ W1 : World, Below wo.heap.size wo W1 → Own W1 2 gv n n (fun _ => .int .i64 0) → Hid (Own (W1.setCell ⟨gv, j, none⟩ (.int .i64 1)) 2 gv n n (fun i => .int .i64 (kvL p k S c j (Maps.has (mD c k)) i)) ∧ Below wo.heap.size wo (W1.setCell ⟨gv, j, none⟩ (.int .i64 1)) ∧ (W1.setCell ⟨gv, j, none⟩ (.int .i64 1)).ownsMap Try.prog 3 (plainElem Try.prog 3) U k (mD c k))) := fun W1 h1 h2 => by
              have hb2 : Below wo.heap.size wo (W1.setCell ⟨gv, j, none⟩ (.int .i64 1)) := h1.setCell (p := ⟨gv, j, none⟩) (Nat.le_of_eq hgv) _
              exact ⟨(h2.set j _).congr fun i hi => by rw [kvL_start]; by_cases e : i = j <;> simp [e], hb2, hMM.kept (grown_none hb2) (by simp)⟩
            have HGV := Lib.hid hgv
            have HFR := Lib.hid hfr
            have HC1 := Lib.hid hc1
            clear hpush hV hfr hc1
            go_wp2_with (first
              | (at_lookup; go_must (refine wpList_lookup_own_ok_int _ rfl _ _ 134 rfl 3 3 .i64 kInt Try.underlying134 Try.underlying3 (zInt _) U k _ rfl hMM _ _ rfl (Maps.keyOf_int_mk Try.underlying3 (WalkArith.wf_i64 (by omega))) ?_); intro cv hat hwc; rw [HF.out])
              | (at_make; refine wpList_mkA _ rfl _ _ _ _ elI rfl rfl .i64 .i64 n rfl rfl (by omega) (by omega) ?_; rw [hgv]; intro W1 hB1 hS1 hO1; have hu := hO1.cell hjn; have hf := hO1.frozen j; rw [← hgv] at hB1; obtain ⟨hOv, hBv, hMv⟩ := (HMK.out W1 hB1 hO1).out; clear hS1)
              | (at_range; obtain ⟨gi, hgi⟩ : ∃ gi, (W1.setCell ⟨gv, j, none⟩ (.int .i64 1)).heap.size = gi := ⟨_, rfl⟩; go_must (refine wpList_range_own _ rfl _ 134 rfl 3 3 kInt Try.underlying134 _ U k _ rfl hMv ?_); rw [hgi]; intro w5 hrg5 hg5 hs5))
            have hgiv : gv < gi := by have := hOv.lt; omega
            have hB5 : Hid (Below wo.heap.size wo w5) := hBv.grown hg5 hBv.size (fun q e => by cases e)
            have hO5 : Hid (Own w5 2 gv n n (fun i => .int .i64 (kvL p k S c j (Maps.has (mD c k)) i))) := hOv.grown hg5 (by intro e; cases e)
            have hR5 := Lib.hid hrg5
            have hUgv : U < gv := by omega
            clear hu hf hO1 hB1 hOv hBv hMv hrg5 hg5 hs5 HMK hMM HF
            go_loopg [16] (Maps.size (mD c k)) (fun g kk wq => ∃ left, Hid (wq.ranges Try.prog 3 (plainElem Try.prog 3) U gi k (mD c k) left g) ∧ Hid (Below wo.heap.size wo wq) ∧ Hid (Own wq 2 gv n n (fun i => .int .i64 (kvL p k S c j left i))))
            case atStart => exact ⟨_, hR5.out, hB5.out, hO5.out⟩
            case round =>
              obtain ⟨left, hrgq, hbq, hOq⟩ := hrel
              clear hR5 hB5 hO5
              have hrq := hrgq.out
              have hV2 := HV.out.kept hbq.out
              go_wp2_with (first
                | (at_next; go_must (refine wpList_next_ranges_ii _ rfl _ rfl 3 3 .i64 .i64 kInt Try.underlying3 Try.underlying3 U gi k _ _ _ rfl hrq ?_ ?_)))
              · intro _ hl0
                go_wp2_with (at_builtin; go_must (refine wpList_push _ rfl _ _ _ _ elR rfl hV2 (.slice (some ⟨gv, 0, none⟩) n n) rfl rfl rfl (by omega) (by omega) ?_); intro g3 c3 w3 hO3 hg3 hgr3)
                go_roundg (n - (j + 1))
                case measure => omega
                case rel =>
                  have hs1 := hb'.out.size
                  have hs2 := hbq.out.size
                  have hgl := hT'.out.lt
                  refine ⟨j + 1, by omega, rfl, by go_num, g3, c3, by rw [HC1.out], by omega, (hb'.out.trans (hbq.out.mono hs1)).grown hgr3 (by omega) (fun q e => by injection e with e; omega), (hM'.out.kept (grown_none hbq.out) (by simp)).kept hgr3 (by simp; omega), (hOM'.out.kept hbq.out).grown hgr3 (Or.inr (by omega)), ?_⟩
                  show OTab _ (U + 1) g3 c3 (cnt (frB c k) (j + 1)) (fun _ => n) (kerT p n k S c)
                  rw [HC1.out]
                  refine (HP.out _ _ _ _ _ _ _ _ hbq.out hOq.out (Nat.le_of_eq HGV.out) hO3 hg3 hgr3).congr (fun i hi => by by_cases e : i = cnt (frB c k) j <;> simp [e]) fun i i' hi hi' => ?_
                  by_cases e : i = cnt (frB c k) j
                  · rw [if_pos e, e]
                    unfold kerT
                    have e2 := sel_new (p := frB c k) HFR.out
                    have e3 := sel_le (p := frB c k) (m := j + 1) (i := cnt (frB c k) j) (by rw [HC1.out]; omega) (n - (j + 1))
                    rw [show j + 1 + (n - (j + 1)) = n by omega, e2] at e3
                    rw [e3]
                    exact kvL_end hl0
                  · rw [if_neg e]
              · intro x cv w6 cnt6 hwx hwc hlx hat hrg6 hlt6 hg6 hs6 hen
                obtain ⟨r, hrk, hrx⟩ := (mD_has c x k).1 (Maps.has_true_of_atKey hat)
                subst hrx
                have hcv : cv = ((r : Nat) : Int) := by
                  have h1 := mD_at c (.map []) k (fun a b ha hb hne => HRed.out.inj ha hb hne) r hrk
                  rw [hat] at h1
                  injection h1 with h1
                  injection h1
                subst hcv
                have hb6 : Below wo.heap.size wo w6 := hbq.out.grown hg6 hbq.out.size (fun q e => by injection e with e; have := HGV.out; omega)
                have hO6 := hOq.out.grown hg6 (by intro e; injection e with e; omega)
                obtain ⟨RR, RC, w1, w2, w3, w4⟩ := (hOM'.out.kept hb6).out
                have e2 := w1.cell hrk
                have e3 := (w3 r hrk).1.cell hjn
                obtain ⟨x, hx⟩ : ∃ x, S r j = x := ⟨_, rfl⟩
                have hxb := HRed.out.inp r hrk j hjn
                rw [hx] at e3 hxb
                have hwn : IntKind.i64.wrap (-x) = -x := wrap_in _ (by omega)
                have hcr := HRed.out.piv r hrk
                have e4 := hO6.cell hcr
                have e5 := hO6.frozen (c r)
                have HX := Lib.hid hx
                have HO6 := Lib.hid hO6
                have HB6 := Lib.hid hb6
                have HRG6 := Lib.hid hrg6
                have HLT := Lib.hid hlt6
                have HKV : Hid (∀ i, kvL p k S c j (fun z => left z && !z.sameKey (.int .i64 ((c r : Nat) : Int))) i = if i = c r then (-(S r j)) % p else kvL p k S c j left i) := kvL_step HRed.out hrk HFR.out left
                have t0 : (0 : Int) ≤ (r : Int) := by omega
                have t1 : (r : Int) < (k : Int) := by omega
                have t2 : (0 : Int) ≤ (c r : Int) := by omega
                have t3 : (c r : Int) < (n : Int) := by omega
                clear hx w1 w3 w4 hb6 hO6 hrg6 hlt6 hg6 hs6 hat hwx hwc hlx hrq hV2
                go_wp2_with (first
                  | (go_at_call 86; refine (iNum_c p (-x) _ (by omega) (by omega) (by omega) (by omega)).mono ?_; rintro e w' ⟨rfl, rfl⟩))
                go_roundg cnt6
                case measure => exact HLT.out
                case rel =>
                  refine ⟨_, HRG6.out.kept (grown_set _ ⟨gv, c r, none⟩ _) (by simp; omega) (by simp; omega), HB6.out.setCell (p := ⟨gv, c r, none⟩) (Nat.le_of_eq HGV.out) _, (HO6.out.set (c r) _).congr fun i hi => ?_⟩
                  rw [HKV.out i]
                  by_cases e : i = c r
                  · rw [if_pos e, if_pos e, HX.out]
                  · rw [if_neg e, if_neg e]
        · obtain rfl : j = n := by omega
          have hml := cnt_le (frB c k) j
          have HB2 : Hid (Calls Try.prog 102 #[.int .i64 p, .slice (some ⟨gl, 0, none⟩) (cnt (frB c k) j) cl] wo fun e w' => CopyT wo w' e Z.2 (fun _ => j) Z.1) := by
            have h := iBasis_c p _ (cnt (frB c k) j) j (kerT p j k S c) wo hT'.out.tab hn (by omega) hp (kerT_in (by omega) j k S c _)
            rw [HZ.out] at h
            exact h
          go_wp2_with fail
          go_at_call 102
          refine HB2.out.mono ?_
          rintro e w4 ⟨g4, c4, rfl, hb4, hO4⟩
          have hs1 := hb'.out.size
          go_wp2
          go_ret
          exact ⟨g4, c4, rfl, hb'.out.trans (hb4.mono hs1), hO4.mono hs1⟩

end Go.Proofs.Ytnkflgigbielgaa

/-
  The vectors orthogonal to those of a list, in both programs. No condition beside sizes.
-/
set_option linter.unusedVariables false
set_option linter.unusedSimpArgs false
namespace Go.Proofs.Ytnkflgigbielgaa
open Go.RowKit

theorem keepO {w wo W W' : World} {p : Int} {ao : Option Addr} {n c : Nat} (hb : Below W.heap.size W W') (h : BoxD w p ao n c W ∧ Below wo.heap.size wo W) : BoxD w p ao n c W' ∧ Below wo.heap.size wo W' :=
  ⟨boxKeep hb h.1, h.2.trans (hb.mono h.2.size)⟩
theorem belowO {w wo W : World} {p : Int} {ao : Option Addr} {n c : Nat} (h : BoxD w p ao n c W ∧ Below wo.heap.size wo W) : Below wo.heap.size wo W := h.2
/-- the rows, their numbers multiplied by the squares -/
def wghT (p : Int) (s : Nat → Int) (T : Nat → Nat → Int) (i j : Nat) : Int := (T i j * s j) % p
theorem wghT_in {p : Int} (hp : 0 < p) (s : Nat → Int) (T : Nat → Nat → Int) (G n : Nat) : RowsIn p G n (wghT p s T) := fun i _ j _ => mod_bd _ _ hp
/-- the reduced basis of what is orthogonal -/
def ortS (p : Int) (n m : Nat) (s : Nat → Int) (T : Nat → Nat → Int) : (Nat → Nat → Int) × Nat := kerS p n (bSt p m (wghT p s T) n)

set_option maxRecDepth 100000 in
set_option maxHeartbeats 2000000 in
theorem iOrthogonal_c (p : Int) (sv lv : Value) (n m : Nat) (s : Nat → Int) (T : Nat → Nat → Int) (w : World) (hd : SV w sv p n s) (hl : Tab w lv m (fun _ => n) T) (hT : RowsIn p m n T) (hm : m ≤ 16) :
    Calls Try.prog 98 #[dbl p sv, lv] w fun e w' => CopyT w w' e (ortS p n m s T).2 (fun _ => n) (ortS p n m s T).1 := by
  have hbd := hd.ok.bd
  have hn1 := hd.ok.n1
  have hn6 := hd.ok.n6
  have hpr := hd.ok.prime
  have hd' := Lib.hid hd
  obtain ⟨ao, c, b, o, rfl, p2, p3, qx⟩ := hd.ints.out
  obtain ⟨la, lc, lb, lo, A, C, RB, RO, rfl, q2, q3, q4, q5, q6, q7, q8⟩ := hl.out
  have hr : ∀ i, i < m → Ints w (.slice (A i) n (C i)) n (T i) := fun i hi => Tab.rowAt (L := fun _ => n) q6 q7 q8 hi
  have P5 := Lib.hid q5
  have HV : Hid (∀ W, Below w.heap.size w W → SV W (.slice ao n c) p n s) := fun W hb => hd.below hb
  have HR : Hid (∀ i W, i < m → Below w.heap.size w W → Vc W (.slice (A i) n (C i)) p n (T i)) := fun i W hi hb => ⟨(hr i hi).below hb, hT i hi⟩
  obtain ⟨e0, e1, e2, e3⟩ := box0 w p ao n c 26
  have BX := Lib.hid (box0 w p ao n c 26)
  have hK : ∀ W v, Tab W v m (fun _ => n) (wghT p s T) → Calls Try.prog 137 #[.int .i64 p, v, .int .i64 n] W fun e w' => CopyT W w' e (ortS p n m s T).2 (fun _ => n) (ortS p n m s T).1 := fun W v h =>
    iKernel_c p v m n (wghT p s T) W h ⟨hn1, by omega⟩ (by omega) hpr (wghT_in (by omega) s T m n)
  obtain ⟨Z, hZ⟩ : ∃ Z, ortS p n m s T = Z := ⟨_, rfl⟩
  rw [hZ] at hK ⊢
  have HK := Lib.hid hK
  have hT0 : OTab ((w.alloc (.cells #[.int .i64 p, .slice ao n c] 26)).alloc (.cells #[] 24)) (w.heap.size + 1) (w.heap.size + 1) 0 0 (fun _ => n) (wghT p s T) := by
    have h := OTab.empty (w.alloc (.cells #[.int .i64 p, .slice ao n c] 26))
    rw [alloc_size] at h
    exact h.congr (fun i hi => absurd hi (Nat.not_lt_zero _)) (fun i j hi => absurd hi (Nat.not_lt_zero _))
  have bA : Below (w.alloc (.cells #[.int .i64 p, .slice ao n c] 26)).heap.size (w.alloc (.cells #[.int .i64 p, .slice ao n c] 26)) ((w.alloc (.cells #[.int .i64 p, .slice ao n c] 26)).alloc (.cells #[] 24)) := (Below.refl _ _).alloc (Nat.le_refl _) _
  have BXA := Lib.hid (boxKeep bA BX.out)
  have HT0 := Lib.hid hT0
  clear hT0 bA hK hZ hd hl hr hT qx q5 q6 q7 q8
  go_enter Try.func98, Try.ntmps98
  go_wp2_with fail
  go_loopg [5, 11] m (fun g o i wr => ∃ k : Nat, k ≤ m ∧ g = m - k ∧ i = .int .i64 k ∧ BoxD w p ao n c wr ∧ ∃ g' c', o = .slice (some ⟨g', 0, none⟩) k c' ∧ OTab wr (w.heap.size + 1) g' c' k (fun _ => n) (wghT p s T))
  case atStart => exact ⟨0, Nat.zero_le _, rfl, rfl, BXA.out, _, _, rfl, HT0.out⟩
  case round =>
    obtain ⟨k, hk, rfl, rfl, ⟨f0, f1, f2, f3⟩, g', c', rfl, hT⟩ := hrel
    have BXr := Lib.hid (show BoxD w p ao n c wr from ⟨f0, f1, f2, f3⟩)
    clear e0 e1 e2 e3
    by_cases hlt : k < m
    · obtain rfl := q4 (by omega)
      have y1 : wr.cell? ⟨lb, lo + k, none⟩ = some (.slice (A k) n (C k)) := by rw [f3.cell (p := ⟨lb, lo + k, none⟩) (lt_of_cell (P5.out k hlt))]; exact P5.out k hlt
      obtain ⟨V, hV, hpush⟩ := hT.pushAt (show w.heap.size + 1 ≤ wr.heap.size by omega)
      have HP := Lib.hid hpush
      have hgB := hT.base
      clear hpush
      go_wp2_with (first
        | (go_at_call 129; go_must (refine (iWeighted_c p _ _ n s (T k) _ (HV.out _ f3) (HR.out k _ hlt f3)).mono ?_); rintro e w4 ⟨g4, c4, rfl, hg4, hb4, hO4⟩; have hV4 := hV.kept hb4)
        | (at_builtin; go_must (refine wpList_push _ rfl _ _ _ _ elR rfl hV4 (.slice (some ⟨g4, 0, none⟩) n c4) rfl rfl rfl (by omega) (by omega) ?_); intro g3 c3 w3 hO3 hg3 hgr3))
      go_roundg (m - (k + 1))
      case measure => omega
      case rel =>
        exact ⟨k + 1, by omega, rfl, by go_num, boxGrown hgr3 (by omega) (boxKeep hb4 BXr.out), g3, c3, rfl, (HP.out _ _ _ _ _ _ _ _ hb4 hO4 hg4 hO3 hg3 hgr3).congr (fun i hi => by by_cases e : i = k <;> simp [e]) (fun i j hi hj => by
          by_cases e : i = k
          · subst e; simp only [if_true]; rfl
          · simp [e])⟩
    · obtain rfl : k = m := by omega
      obtain ⟨wo, rfl⟩ : ∃ wo, wo = wr := ⟨_, rfl⟩
      have HKK : Hid (∀ W, Below wo.heap.size wo W → Calls Try.prog 137 #[.int .i64 p, .slice (some ⟨g', 0, none⟩) k c', .int .i64 n] W fun e w' => ∃ g c, e = .returned (.slice (some ⟨g, 0, none⟩) Z.2 c) ∧ Below W.heap.size W w' ∧ Hid (OTab w' wo.heap.size g c Z.2 (fun _ => n) Z.1)) := fun W hb =>
        (HK.out W _ (hT.tab.below hb)).mono fun e w' h => by
          obtain ⟨g, c, q1, q2, q3⟩ := h
          exact ⟨g, c, q1, q2, q3.mono hb.size⟩
      go_wp2_with fail
      go_region_held3 (fun W => (W.cell? ⟨w.heap.size, 0, none⟩ = some (.int .i64 p) ∧ W.cell? ⟨w.heap.size, 1, none⟩ = some (.slice ao n c) ∧ w.heap.size < W.heap.size ∧ Below w.heap.size w W) ∧ Below wo.heap.size wo W)
        ((first | assumption | exact ⟨boxDrew ⟨f0, f1, f2, f3⟩, drewB _⟩ | exact keepO (by assumption) (by assumption)))
        ((first
          | (go_at_call 71; refine Calls.makes' (iSField_c _ _ _) _ fun w1 hb1 => ?_)
          | (go_at_call 92; refine Calls.makes' (iDim_c _ _ _ _ _ (by omega)) _ fun w2 hb2 => ?_)
          | (go_at_call 137; refine (HKK.out _ (belowO (w := w) (p := p) (ao := ao) (n := n) (c := c) (by assumption))).mono ?_; rintro e w4 ⟨g4, c4, rfl, hb4, hOF⟩)))
      all_goals have hbF : Below wo.heap.size wo w4 := belowO (w := w) (p := p) (ao := ao) (n := n) (c := c) (by assumption)
      all_goals go_wp2
      all_goals go_ret
      all_goals exact ⟨g4, c4, rfl, f3.trans (hbF.mono f3.size), hOF.out.mono f3.size⟩

end Go.Proofs.Ytnkflgigbielgaa

/-
  OrthogonalTo in both programs. No condition.
-/
set_option linter.unusedVariables false
set_option linter.unusedSimpArgs false
namespace Go.Proofs.Ytnkflgigbielgaa
open Go.RowKit

theorem keepQ {w W W' : World} {p : Int} {ao : Option Addr} {n c : Nat} {a1 a2 a3 : Addr} {v1 v2 v3 : Value} (h1 : a1.block < w.heap.size) (h2 : a2.block < w.heap.size) (h3 : a3.block < w.heap.size) (hb : Below W.heap.size W W')
    (h : BoxD w p ao n c W ∧ W.cell? a1 = some v1 ∧ W.cell? a2 = some v2 ∧ W.cell? a3 = some v3) : BoxD w p ao n c W' ∧ W'.cell? a1 = some v1 ∧ W'.cell? a2 = some v2 ∧ W'.cell? a3 = some v3 := by
  have hs := h.1.2.2.2.size
  exact ⟨boxKeep hb h.1, by rw [hb.cell (p := a1) (by omega)]; exact h.2.1, by rw [hb.cell (p := a2) (by omega)]; exact h.2.2.1, by rw [hb.cell (p := a3) (by omega)]; exact h.2.2.2⟩
theorem keepQg {w W W' : World} {p : Int} {ao : Option Addr} {n c g : Nat} {a1 a2 a3 : Addr} {v1 v2 v3 : Value} (h1 : a1.block < w.heap.size) (h2 : a2.block < w.heap.size) (h3 : a3.block < w.heap.size) (hg : w.heap.size < g) (hgr : W.grownBy W' (some g))
    (h : BoxD w p ao n c W ∧ W.cell? a1 = some v1 ∧ W.cell? a2 = some v2 ∧ W.cell? a3 = some v3) : BoxD w p ao n c W' ∧ W'.cell? a1 = some v1 ∧ W'.cell? a2 = some v2 ∧ W'.cell? a3 = some v3 := by
  have hs := h.1.2.2.2.size
  have hc : ∀ (a : Addr) (v : Value), a.block < w.heap.size → W.cell? a = some v → W'.cell? a = some v := fun a v ha hv => by
    rw [World.cell?_of_block (w := W) (hgr.block a.block (by omega) (by intro e; injection e with e; omega))]; exact hv
  exact ⟨boxGrown hgr hg h.1, hc _ _ h1 h.2.1, hc _ _ h2 h.2.2.1, hc _ _ h3 h.2.2.2⟩

set_option maxRecDepth 100000 in
set_option maxHeartbeats 2000000 in
theorem sOrthogonal_c (p : Int) (sv lv : Value) (n m : Nat) (s : Nat → Int) (T : Nat → Nat → Int) (w : World) (hd : SV w sv p n s) (hl : Tab w lv m (fun _ => n) T) (hT : RowsIn p m n T) (hm : m ≤ 16) :
    Calls Try.prog 100 #[dbl p sv, lv] w fun e w' => CopyT w w' e (ortS p n m s T).2 (fun _ => n) (ortS p n m s T).1 := by
  have hbd := hd.ok.bd
  have hn1 := hd.ok.n1
  have hn6 := hd.ok.n6
  have hpr := hd.ok.prime
  have hsin := Lib.hid hd.ok.inp
  obtain ⟨ao, c, b, o, rfl, p2, p3, p4, p5⟩ := hd.ints.out
  obtain rfl := p4 (by omega)
  obtain ⟨la, lc, lb, lo, A, C, RB, RO, rfl, q2, q3, q4, q5, q6, q7, q8⟩ := hl.out
  have P5 := Lib.hid p5
  have Q5 := Lib.hid q5
  have Q7 := Lib.hid q7
  have Q8 := Lib.hid q8
  have HTI := Lib.hid hT
  have hp0 : p ≠ 0 := by omega
  have hbl : b < w.heap.size := lt_of_cell (p5 0 (by omega))
  obtain ⟨e0, e1, e2, e3⟩ := box0 w p (some ⟨b, o, none⟩) n c 26
  have BX := Lib.hid (box0 w p (some ⟨b, o, none⟩) n c 26)
  by_cases hm0 : m = 0
  · subst hm0
    have hz : (ortS p n 0 s T).2 = n ∧ ∀ r j, r < n → j < n → (ortS p n 0 s T).1 r j = dltU r j := by
      unfold ortS; rw [bSt_zero]; exact kerS_none hpr n _
    have hU : Hid (∀ W, Calls Try.prog 138 #[.int .i64 n] W fun e w' => CopyT W w' e (ortS p n 0 s T).2 (fun _ => n) (ortS p n 0 s T).1) := fun W =>
      (sUnit2_c n W (by omega)).mono fun e w' h => h.turn hz.1.symm fun i j hi hj => (hz.2 i j hi hj).symm
    obtain ⟨Z, hZ⟩ : ∃ Z, ortS p n 0 s T = Z := ⟨_, rfl⟩
    rw [hZ] at hU ⊢
    clear hz hZ p5 q5 q7 q8 hT
    go_enter Try.func100, Try.ntmps100
    go_wp2_with fail
    go_at_call 138
    refine (hU.out _).mono ?_
    rintro e w4 ⟨g4, c4, rfl, hb4, hO4⟩
    go_wp2
    go_ret
    exact ⟨g4, c4, rfl, e3.trans (hb4.mono e3.size), hO4.mono e3.size⟩
  · have hK : ∀ W v, Tab W v m (fun _ => n) (wghT p s T) → Calls Try.prog 139 #[.int .i64 p, v] W fun e w' => CopyT W w' e (ortS p n m s T).2 (fun _ => n) (ortS p n m s T).1 := fun W v h =>
      sKernel_c p v m n (wghT p s T) W h ⟨hn1, by omega⟩ ⟨by omega, by omega⟩ hpr (wghT_in (by omega) s T m n)
    obtain ⟨Z, hZ⟩ : ∃ Z, ortS p n m s T = Z := ⟨_, rfl⟩
    rw [hZ] at hK ⊢
    have HK := Lib.hid hK
    have hT0 : OTab ((w.alloc (.cells #[.int .i64 p, .slice (some ⟨b, o, none⟩) n c] 26)).alloc (.cells #[] 24)) (w.heap.size + 1) (w.heap.size + 1) 0 0 (fun _ => n) (wghT p s T) := by
      have h := OTab.empty (w.alloc (.cells #[.int .i64 p, .slice (some ⟨b, o, none⟩) n c] 26))
      rw [alloc_size] at h
      exact h.congr (fun i hi => absurd hi (Nat.not_lt_zero _)) (fun i j hi => absurd hi (Nat.not_lt_zero _))
    have bA : Below (w.alloc (.cells #[.int .i64 p, .slice (some ⟨b, o, none⟩) n c] 26)).heap.size (w.alloc (.cells #[.int .i64 p, .slice (some ⟨b, o, none⟩) n c] 26)) ((w.alloc (.cells #[.int .i64 p, .slice (some ⟨b, o, none⟩) n c] 26)).alloc (.cells #[] 24)) := (Below.refl _ _).alloc (Nat.le_refl _) _
    have BXA := Lib.hid (boxKeep bA BX.out)
    have HT0 := Lib.hid hT0
    obtain rfl := q4 (by omega)
    have hm1 : ((m : Int) == 0) = false := by simp; omega
    clear hT0 bA hK hZ hd hl hT p5 q5 q7 q8
    go_enter Try.func100, Try.ntmps100
    go_wp2_with fail
    go_loopg [5, 6] m (fun g o' i wr => ∃ k : Nat, k ≤ m ∧ g = m - k ∧ i = .int .i64 k ∧ BoxD w p (some ⟨b, o, none⟩) n c wr ∧ ∃ g' c', o' = .slice (some ⟨g', 0, none⟩) k c' ∧ OTab wr (w.heap.size + 1) g' c' k (fun _ => n) (wghT p s T))
    case atStart => exact ⟨0, Nat.zero_le _, rfl, rfl, BXA.out, _, _, rfl, HT0.out⟩
    case round =>
      obtain ⟨k, hk, rfl, rfl, ⟨f0, f1, f2, f3⟩, g', c', rfl, hT⟩ := hrel
      obtain ⟨wo, rfl⟩ : ∃ wo, wo = wr := ⟨_, rfl⟩
      have BXr := Lib.hid (show BoxD w p (some ⟨b, o, none⟩) n c wo from ⟨f0, f1, f2, f3⟩)
      clear e0 e1 e2 e3
      by_cases hlt : k < m
      · obtain ⟨V, hV, hpush⟩ := hT.pushAt (show w.heap.size + 1 ≤ wo.heap.size by omega)
        have HP := Lib.hid hpush
        have HVV := Lib.hid hV
        have hgB := hT.base
        have hR0 : Own (wo.alloc (.cells #[] 2)) 2 wo.heap.size 0 0 (fun j => .int .i64 (wghT p s T k j)) := Own.empty _ _ _
        have bE : Below wo.heap.size wo (wo.alloc (.cells #[] 2)) := (Below.refl _ _).alloc (Nat.le_refl _) _
        have BXE := Lib.hid (boxKeep bE BXr.out)
        have HR0 := Lib.hid hR0
        have BE := Lib.hid bE
        clear hpush hV hR0 bE hT
        go_wp2_with fail
        go_loopg [7, 8] n (fun g o' i wq => ∃ j : Nat, j ≤ n ∧ g = n - j ∧ i = .int .i64 j ∧ BoxD w p (some ⟨b, o, none⟩) n c wq ∧ Hid (Below wo.heap.size wo wq) ∧ ∃ g2 c2, o' = .slice (some ⟨g2, 0, none⟩) j c2 ∧ wo.heap.size ≤ g2 ∧ Own wq 2 g2 c2 j (fun j => .int .i64 (wghT p s T k j)))
        case atStart => exact ⟨0, Nat.zero_le _, rfl, rfl, BXE.out, BE, _, _, rfl, Nat.le_refl _, HR0.out⟩
        case round =>
          obtain ⟨j, hj, rfl, rfl, ⟨h0, h1, h2, h3⟩, hbel, g2, c2, rfl, hg2, hO⟩ := hrel
          have BXq := Lib.hid (show BoxD w p (some ⟨b, o, none⟩) n c wr from ⟨h0, h1, h2, h3⟩)
          by_cases hlt2 : j < n
          · have z1 := Q5.out k hlt
            rw [Q7.out k hlt (by omega)] at z1
            have z2 := Q8.out k j hlt hlt2
            have z3 := P5.out j hlt2
            obtain ⟨x, hx⟩ : ∃ x, T k j = x := ⟨_, rfl⟩
            have hxb := HTI.out k hlt j hlt2
            rw [hx] at z2 hxb
            obtain ⟨y, hy⟩ : ∃ y, s j = y := ⟨_, rfl⟩
            have hyb := hsin.out j hlt2
            rw [hy] at z3 hyb
            have l1 := lt_of_cell z1
            have l2 := lt_of_cell z2
            have hm2 := mul_bd (a := x) (b := y) (by omega) (by omega)
            have hwm : IntKind.i64.wrap (x * y) = x * y := wrap_in _ (by omega)
            obtain ⟨z, hz⟩ : ∃ z, (x * y) % p = z := ⟨_, rfl⟩
            have htm : Int.tmod (x * y) p = z := by rw [← hz]; exact Int.tmod_eq_emod_of_nonneg (Int.mul_nonneg (by omega) (by omega))
            have hzz : Hid (z = wghT p s T k j) := by show z = wghT p s T k j; unfold wghT; rw [hx, hy, hz]
            have HS0 : Hid (BoxD w p (some ⟨b, o, none⟩) n c wr.drew ∧ wr.drew.cell? ⟨lb, lo + k, none⟩ = some (.slice (some ⟨RB k, RO k, none⟩) n (C k)) ∧ wr.drew.cell? ⟨RB k, RO k + j, none⟩ = some (.int .i64 x) ∧ wr.drew.cell? ⟨b, o + j, none⟩ = some (.int .i64 y)) :=
              keepQ l1 l2 hbl (drewB wr) ⟨BXq.out, by rw [h3.cell (p := ⟨lb, lo + k, none⟩) l1]; exact z1, by rw [h3.cell (p := ⟨RB k, RO k + j, none⟩) l2]; exact z2, by rw [h3.cell (p := ⟨b, o + j, none⟩) hbl]; exact z3⟩
            have hOd := hO.drew
            have i0 : (0 : Int) ≤ (k : Int) := by omega
            have i1 : (k : Int) < (m : Int) := by omega
            have i2 : (0 : Int) ≤ (j : Int) := by omega
            have i3 : (j : Int) < (n : Int) := by omega
            have hgw : w.heap.size < g2 := by omega
            clear hx hy hz z1 z2 z3
            go_wp2_with fail
            go_region_held3 (fun W => (W.cell? ⟨w.heap.size, 0, none⟩ = some (.int .i64 p) ∧ W.cell? ⟨w.heap.size, 1, none⟩ = some (.slice (some ⟨b, o, none⟩) n c) ∧ w.heap.size < W.heap.size ∧ Below w.heap.size w W) ∧ W.cell? ⟨lb, lo + k, none⟩ = some (.slice (some ⟨RB k, RO k, none⟩) n (C k)) ∧ W.cell? ⟨RB k, RO k + j, none⟩ = some (.int .i64 x) ∧ W.cell? ⟨b, o + j, none⟩ = some (.int .i64 y))
              ((first | assumption | exact HS0.out | exact keepQ l1 l2 hbl ((Below.refl _ _).alloc (Nat.le_refl _) _) (by assumption) | exact keepQg l1 l2 hbl hgw (by assumption) (by assumption)))
              ((first | (go_must (refine step_push rfl _ _ _ _ elI rfl hOd (.int .i64 z) rfl rfl rfl (by omega) (by omega) ?_); intro g3 c3 w3 hO3 hg3 hgr3)))
            all_goals
              (have hB3 : BoxD w p (some ⟨b, o, none⟩) n c w3 := And.left (b := w3.cell? ⟨lb, lo + k, none⟩ = some (.slice (some ⟨RB k, RO k, none⟩) n (C k)) ∧ w3.cell? ⟨RB k, RO k + j, none⟩ = some (.int .i64 x) ∧ w3.cell? ⟨b, o + j, none⟩ = some (.int .i64 y)) (by assumption)
               have HB3 := Lib.hid hB3
               clear hB3)
            all_goals go_wp2
            all_goals go_roundg (n - (j + 1))
            all_goals first
              | omega
              | (have a4 := hbel.out.size
                 have hgr4 : wr.grownBy w3 (some g2) := ⟨hgr3.os, hgr3.tape, hgr3.output, hgr3.size, hgr3.block⟩
                 have hg4 : g3 = g2 ∨ wr.heap.size ≤ g3 := hg3
                 refine ⟨j + 1, by omega, rfl, by go_num, HB3.out, hbel.out.grown hgr4 (by omega) (fun q e => by injection e with e; omega), g3, c3, rfl, by omega, hO3.congr fun i hi => ?_⟩
                 by_cases e2 : i = j
                 · subst e2; simp [hzz.out]
                 · simp [e2])
          · obtain rfl : j = n := by omega
            have hV2 := HVV.out.kept hbel.out
            go_wp2_with (at_builtin; go_must (refine wpList_push _ rfl _ _ _ _ elR rfl hV2 (.slice (some ⟨g2, 0, none⟩) j c2) rfl rfl rfl (by omega) (by omega) ?_); intro g3 c3 w3 hO3 hg3 hgr3)
            go_roundg (m - (k + 1))
            case measure => omega
            case rel => exact ⟨k + 1, by omega, rfl, by go_num, boxGrown hgr3 (by omega) BXq.out, g3, c3, rfl, (HP.out _ _ _ _ _ _ _ _ hbel.out hO hg2 hO3 hg3 hgr3).congr (fun i hi => by by_cases e : i = k <;> simp [e]) (fun i j hi hj => by by_cases e : i = k <;> simp [e])⟩
      · obtain rfl : k = m := by omega
        go_wp2_with fail
        go_at_call 139
        refine (HK.out _ _ hT.tab).mono ?_
        rintro e w4 ⟨g4, c4, rfl, hb4, hO4⟩
        go_wp2
        go_ret
        exact ⟨g4, c4, rfl, f3.trans (hb4.mono f3.size), hO4.mono f3.size⟩

set_option maxRecDepth 100000 in
set_option maxHeartbeats 2000000 in
theorem iOrthogonalTo_c (p : Int) (sv lv : Value) (n m : Nat) (s : Nat → Int) (L : Nat → Nat) (T : Nat → Nat → Int) (w : World) (h : Ints w sv n s) (hl : Tab w lv m L T) :
    Calls Try.prog 37 #[dbl p sv, lv] w fun e w' => ResCT w w' e (codeSl (spB p n s) p n m L T) (ortS p n m s T).2 (fun _ => n) (ortS p n m s T).1 := by
  have h' := Lib.hid h
  have hl' := Lib.hid hl
  obtain ⟨ao, c, b, o, rfl, p2, p3, qx⟩ := h.out
  obtain ⟨la, lc, lb, lo, A, C, RB, RO, rfl, q2, q3, qy⟩ := hl.out
  clear qx qy
  obtain ⟨e0, e1, e2, e3⟩ := box0 w p ao n c 26
  have BX := Lib.hid (box0 w p ao n c 26)
  obtain ⟨cc, hcc⟩ : ∃ cc, codeSl (spB p n s) p n m L T = cc := ⟨_, rfl⟩
  have HC : Hid (Calls Try.prog 74 #[dbl p (.slice ao n c), .slice la m lc] (w.alloc (.cells #[.int .i64 p, .slice ao n c] 26)) fun e w' => Makes (w.alloc (.cells #[.int .i64 p, .slice ao n c] 26)) w' e (.int .i64 cc)) := hcc ▸ iCkL_c p _ _ n m s L T _ (h.below e3) (hl.below e3)
  obtain ⟨Z, hZ⟩ : ∃ Z, ortS p n m s T = Z := ⟨_, rfl⟩
  by_cases h0 : cc = 0
  · obtain ⟨hok, hvec, hm16⟩ := codeSl_zero (hcc.trans h0)
    have hsp := spB_ok hok
    have HO : Hid (∀ W, Below w.heap.size w W → Calls Try.prog 98 #[dbl p (.slice ao n c), .slice la m lc] W fun e w' => CopyT W w' e Z.2 (fun _ => n) Z.1) := fun W hb => by
      have hv := vecRows (hl'.out.below hb) hvec
      have := iOrthogonal_c p _ _ n m s T W ⟨h'.out.below hb, hsp⟩ hv.1 hv.2 hm16
      rw [hZ] at this
      exact this
    rw [hcc, hZ]
    subst h0
    clear h hl hcc hvec hok hsp hZ
    go_enter Try.func37, Try.ntmps37
    go_wp2_with fail
    refine Calls.makes' HC.out _ fun w1 hb1 => ?_
    obtain ⟨f0, f1, f2, f3⟩ := boxKeep hb1 BX.out
    go_wp2_with fail
    go_at_call 98
    refine (HO.out _ f3).mono ?_
    rintro e w4 ⟨g4, c4, rfl, hb4, hO4⟩
    go_wp2
    go_ret2
    exact ⟨f3.trans (hb4.mono f3.size), Or.inl ⟨rfl, g4, c4, rfl, hO4.mono f3.size⟩⟩
  · have hne : (cc != 0) = true := by rw [bne_iff_ne]; exact h0
    rw [hcc, hZ]
    go_enter Try.func37, Try.ntmps37
    go_wp2_with fail
    refine Calls.makes' HC.out _ fun w1 hb1 => ?_
    go_wp2
    go_ret2
    exact ⟨e3.trans (hb1.mono e3.size), Or.inr ⟨h0, rfl⟩⟩

set_option maxRecDepth 100000 in
set_option maxHeartbeats 2000000 in
theorem sOrthogonalTo_c (p : Int) (sv lv : Value) (n m : Nat) (s : Nat → Int) (L : Nat → Nat) (T : Nat → Nat → Int) (w : World) (h : Ints w sv n s) (hl : Tab w lv m L T) :
    Calls Try.prog 38 #[dbl p sv, lv] w fun e w' => ResCT w w' e (codeSl (spB p n s) p n m L T) (ortS p n m s T).2 (fun _ => n) (ortS p n m s T).1 := by
  have h' := Lib.hid h
  obtain ⟨ao, c, b, o, rfl, p2, p3, qx⟩ := h.out
  have hl' := Lib.hid hl
  obtain ⟨la, lc, lb, lo, A, C, RB, RO, rfl, q2, q3, qy⟩ := hl.out
  clear qx qy h hl
  obtain ⟨e0, e1, e2, e3⟩ := box0 w p ao n c 26
  have BX := Lib.hid (box0 w p ao n c 26)
  obtain ⟨Z, hZ⟩ : ∃ Z, ortS p n m s T = Z := ⟨_, rfl⟩
  cases hok : spB p n s
  · rw [← hok, codeSl_out hok, hZ]
    go_enter Try.func38, Try.ntmps38
    go_wp2_with fail
    refine Calls.makes' (sIsSp_c _ _ _ _ _ (h'.out.below e3)) _ fun w1 hb1 => ?_
    rw [hok]
    go_wp2
    go_ret2
    exact ⟨e3.trans (hb1.mono e3.size), Or.inr ⟨by decide, rfl⟩⟩
  · rw [← hok]
    have hsp := spB_ok hok
    obtain ⟨bb, hbb⟩ : ∃ bb, (anyB (fun i => !vecB p n (L i) (T i)) m || decide (16 < m)) = bb := ⟨_, rfl⟩
    have HLC : Hid (∀ W, Below w.heap.size w W → Calls Try.prog 99 #[dbl p (.slice ao n c), .slice la m lc] W fun e w' => Makes W w' e (.bool (!bb))) := fun W hb => hbb ▸ sList_c p _ _ n m s L T W ⟨h'.out.below hb, hsp⟩ (hl'.out.below hb)
    have hcc : codeSl (spB p n s) p n m L T = if bb then 2 else 0 := by rw [codeSl_in hok, hbb]
    have HOK := Lib.hid hok
    have HO : bb = false → Hid (∀ W, Below w.heap.size w W → Calls Try.prog 100 #[dbl p (.slice ao n c), .slice la m lc] W fun e w' => CopyT W w' e Z.2 (fun _ => n) Z.1) := fun h0 W hb => by
      obtain ⟨_, hvec, hm16⟩ := codeSl_zero (by rw [hcc, h0]; rfl)
      have hv := vecRows (hl'.out.below hb) hvec
      have := sOrthogonal_c p _ _ n m s T W ⟨h'.out.below hb, hsp⟩ hv.1 hv.2 hm16
      rw [hZ] at this
      exact this
    rw [hcc, hZ]
    clear hbb hcc hok hsp hZ
    cases bb
    · have HO2 := HO rfl
      clear HO
      go_enter Try.func38, Try.ntmps38
      go_wp2_with fail
      refine Calls.makes' (sIsSp_c _ _ _ _ _ (h'.out.below e3)) _ fun w1 hb1 => ?_
      rw [HOK.out]
      have bx1 := boxKeep hb1 BX.out
      obtain ⟨f0, f1, f2, f3⟩ := bx1
      go_wp2_with fail
      refine Calls.makes' (HLC.out _ f3) _ fun w2 hb2 => ?_
      obtain ⟨h0, h1, h2, h3⟩ := boxKeep hb2 ⟨f0, f1, f2, f3⟩
      go_wp2_with fail
      go_at_call 100
      refine (HO2.out _ h3).mono ?_
      rintro e w4 ⟨g4, c4, rfl, hb4, hO4⟩
      go_wp2
      go_ret2
      exact ⟨h3.trans (hb4.mono h3.size), Or.inl ⟨rfl, g4, c4, rfl, hO4.mono h3.size⟩⟩
    · clear HO
      go_enter Try.func38, Try.ntmps38
      go_wp2_with fail
      refine Calls.makes' (sIsSp_c _ _ _ _ _ (h'.out.below e3)) _ fun w1 hb1 => ?_
      rw [HOK.out]
      have bx1 := boxKeep hb1 BX.out
      obtain ⟨f0, f1, f2, f3⟩ := bx1
      go_wp2_with fail
      refine Calls.makes' (HLC.out _ f3) _ fun w2 hb2 => ?_
      go_wp2
      go_ret2
      exact ⟨f3.trans (hb2.mono f3.size), Or.inr ⟨by decide, rfl⟩⟩

end Go.Proofs.Ytnkflgigbielgaa

/-
  The law on OrthogonalTo returns true. No condition.
-/
set_option linter.unusedVariables false
set_option linter.unusedSimpArgs false
namespace Go.Proofs.Ytnkflgigbielgaa
open Go.RowKit

theorem OrthogonalTo_o (pd : Int) (nd : Nat) (sd : Nat → Int) (nl : Nat) (Ll : Nat → Nat) (L : Nat → Nat → Int) :
    ∃ (cc : Int) (M : Nat) (LR : Nat → Nat) (R : Nat → Nat → Int), M ≤ 1048576 ∧ sumL LR M ≤ 1048576 ∧ 
    (∀ (W : World) (dv lv : Value), Ints W dv nd sd → Tab W lv nl Ll L → Calls Try.prog 38 #[dbl pd dv, lv] W fun e w' => ResT W w' e cc M LR R) ∧
    (∀ (W : World) (dv lv : Value), Ints W dv nd sd → Tab W lv nl Ll L → Calls Try.prog 37 #[dbl pd dv, lv] W fun e w' => ResT W w' e cc M LR R) :=
  have hsz : ∀ cc : Int, (cc = 0 → (ortS pd nd nl sd L).2 ≤ nd ∧ nd ≤ 6) → (if cc = 0 then (ortS pd nd nl sd L).2 else 0) ≤ 1048576 ∧ sumL (fun _ => nd) (if cc = 0 then (ortS pd nd nl sd L).2 else 0) ≤ 1048576 := fun cc h => by
    by_cases h0 : cc = 0
    · rw [if_pos h0, sumL_const]
      have h1 := h h0
      have h2 := Nat.mul_le_mul h1.1 h1.2
      have h3 := Nat.mul_le_mul h1.2 h1.2
      have h4 := Nat.mul_le_mul (Nat.le_trans h1.1 h1.2) h1.2
      omega
    · rw [if_neg h0]; simp [sumL]
  have hb : codeSl (spB pd nd sd) pd nd nl Ll L = 0 → (ortS pd nd nl sd L).2 ≤ nd ∧ nd ≤ 6 := fun h => by
    have hok := spB_ok (codeSl_zero h).1
    refine ⟨?_, hok.n6⟩
    have hb := hok.bd
    exact (bSt_of hok.prime (kerT_in (p := pd) (by omega) nd _ _ _ _)).le
  ⟨_, _, _, _, (hsz _ hb).1, (hsz _ hb).2,
    fun W dv lv h1 h2 => (sOrthogonalTo_c pd dv lv nd nl sd Ll L W h1 h2).mono fun _ _ h => h.toT,
    fun W dv lv h1 h2 => (iOrthogonalTo_c pd dv lv nd nl sd Ll L W h1 h2).mono fun _ _ h => h.toT⟩

end Go.Proofs.Ytnkflgigbielgaa
