/-
  The kernel by the program, with its map of places. No condition beside sizes.
-/
import Derived.Test.YtnnacligfoonbaaRJ
import Derived.Test.YtnnacligfoonbaaQC
import Derived.Test.YtnnacligfoonbaaD40
import Derived.Deep.DeepMust
import Derived.Maps.OwnSet
import Derived.Maps.OwnOps
import Derived.Maps.RangeWalk
import Derived.Maps.Views
set_option linter.unusedVariables false
set_option linter.unusedSimpArgs false
namespace Go.Proofs.Ytnnacligfoonbaa
open Go.RowKit
open Go.Maps (Keyed IsMap)

theorem setCell_size (w : World) (a : Addr) (u : Value) : (w.setCell a u).heap.size = w.heap.size := by simp [World.setCell]

theorem Red.lddc {p : Int} {n d : Nat} {T : Nat → Nat → Int} {c : Nat → Nat} (h : Red p n d T c) : Red p n d T (fun r => Go.Proofs.Ytnnacligfoonbaa.ldd n (T r)) :=
  ⟨h.inp, fun r hr => by show Go.Proofs.Ytnnacligfoonbaa.ldd n (T r) < n; rw [h.ldd hr]; exact h.piv r hr, fun r s hrs hs => by show Go.Proofs.Ytnnacligfoonbaa.ldd n (T r) < Go.Proofs.Ytnnacligfoonbaa.ldd n (T s); rw [h.ldd (show r < d by omega), h.ldd hs]; exact h.inc r s hrs hs,
    fun r hr => by show T r (Go.Proofs.Ytnnacligfoonbaa.ldd n (T r)) = 1; rw [h.ldd hr]; exact h.one r hr, fun r s hr hs hne => by show T s (Go.Proofs.Ytnnacligfoonbaa.ldd n (T r)) = 0; rw [h.ldd hr]; exact h.oth r s hr hs hne,
    fun r j hr hj => by have hj : j < Go.Proofs.Ytnnacligfoonbaa.ldd n (T r) := hj; rw [h.ldd hr] at hj; exact h.lead r j hr hj⟩
theorem cB {w W : World} {a : Addr} {u : Value} (h : W.cell? a = some u ∧ Below w.heap.size w W) : Below w.heap.size w W := h.2
theorem sel_le {p : Nat → Bool} {m i : Nat} (h : i < cnt p m) : ∀ e, sel p (m + e) i = sel p m i
  | 0 => rfl
  | e + 1 => by
    have h2 : i < cnt p (m + e) := by
      have : ∀ q, cnt p m ≤ cnt p (m + q) := fun q => by
        induction q with
        | zero => exact Nat.le_refl _
        | succ q ih => show _ ≤ cnt p (m + q) + _; omega
      have := this e; omega
    rw [show m + (e + 1) = (m + e) + 1 from rfl, sel_old h2]
    exact sel_le h e
theorem kvK_succ (p : Int) (T : Nat → Nat → Int) (c : Nat → Nat) (f k j : Nat) : kvK p T c f (k + 1) j = if j = c k then (-(T k f)) % p else kvK p T c f k j := rfl
theorem cnt_no {f : Nat → Bool} {k : Nat} (h : f k = false) : cnt f (k + 1) = cnt f k := by simp [cnt, h]
theorem cnt_yes {f : Nat → Bool} {k : Nat} (h : f k = true) : cnt f (k + 1) = cnt f k + 1 := by simp [cnt, h]

/-- the map of the places of the first k rows -/
def mD (c : Nat → Nat) : Nat → DataW Unit
  | 0 => .map []
  | k + 1 => (mD c k).put (.int .i64 ((c k : Nat) : Int)) (.lit (.int .i64 ((k : Nat) : Int)))
theorem mD_map (c : Nat → Nat) : ∀ k, IsMap (mD c k)
  | 0 => Maps.isMap_empty
  | k + 1 => (mD_map c k).put _ _
theorem key_ne {a b : Int} (h : a ≠ b) : Lit.int .i64 a ≠ Lit.int .i64 b := fun e => by injection e with _ e; exact h e
theorem mD_has (c : Nat → Nat) (x : Int) : ∀ d, Maps.has (mD c d) (.int .i64 x) = true ↔ ∃ r, r < d ∧ ((c r : Nat) : Int) = x
  | 0 => ⟨fun h => by simp [mD, Maps.has_eq] at h, fun ⟨r, hr, _⟩ => absurd hr (Nat.not_lt_zero _)⟩
  | d + 1 => by
    have ih := mD_has c x d
    by_cases e : x = ((c d : Nat) : Int)
    · subst e
      exact ⟨fun _ => ⟨d, by omega, rfl⟩, fun _ => Maps.has_put_same (mD_map c d) (show WideAt.IsKeyLit (.int .i64 ((c d : Nat) : Int)) from trivial) _⟩
    · have h2 : Maps.has (mD c (d + 1)) (.int .i64 x) = Maps.has (mD c d) (.int .i64 x) := Maps.has_put_other (key_ne e) _
      rw [h2, ih]
      exact ⟨fun ⟨r, q1, q2⟩ => ⟨r, by omega, q2⟩, fun ⟨r, q1, q2⟩ => by
        by_cases e2 : r = d
        · rw [e2] at q2; exact absurd q2.symm e
        · exact ⟨r, by omega, q2⟩⟩
theorem mD_at (c : Nat → Nat) (z : DataW Unit) : ∀ d, (∀ r s, r < d → s < d → r ≠ s → c r ≠ c s) → ∀ r, r < d → (mD c d).atKey (.int .i64 ((c r : Nat) : Int)) z = .lit (.int .i64 ((r : Nat) : Int))
  | 0, _, r, hr => absurd hr (Nat.not_lt_zero _)
  | d + 1, hi, r, hr => by
    by_cases e : r = d
    · subst e; exact Maps.atKey_put_same (mD_map c r) (show WideAt.IsKeyLit (.int .i64 ((c r : Nat) : Int)) from trivial) _ _
    · have h2 : (mD c (d + 1)).atKey (.int .i64 ((c r : Nat) : Int)) z = (mD c d).atKey (.int .i64 ((c r : Nat) : Int)) z := Maps.atKey_put_other (key_ne (by have := hi r d (by omega) (by omega) e; omega)) _ _
      rw [h2]
      exact mD_at c z d (fun a b ha hb => hi a b (by omega) (by omega)) r (by omega)
theorem frB_iff (c : Nat → Nat) (d j : Nat) : frB c d j = true ↔ ∀ r, r < d → c r ≠ j := by
  have hl := pvt_le c d j
  constructor
  · intro h r hr
    exact pvt_none (by simpa [frB] using h) hr
  · intro h
    by_cases e : pvt c d j < d
    · exact absurd (pvt_is e) (h _ e)
    · simp [frB]; omega
theorem mD_free (c : Nat → Nat) (d j : Nat) : Maps.has (mD c d) (.int .i64 ((j : Nat) : Int)) = !frB c d j := by
  have h1 := mD_has c (j : Int) d
  have h2 := frB_iff c d j
  cases hf : frB c d j
  · have : ¬ ∀ r, r < d → c r ≠ j := fun h => by rw [h2.2 h] at hf; cases hf
    refine h1.2 ?_
    exact Classical.byContradiction fun hne => this fun r hr e => hne ⟨r, hr, by omega⟩
  · cases hh : Maps.has (mD c d) (.int .i64 ((j : Nat) : Int))
    · rfl
    · obtain ⟨r, hr, e⟩ := h1.1 hh
      exact absurd (by omega) (h2.1 hf r hr)

/-- the list of a free place, but for the places still to come -/
def kvL (p : Int) (d : Nat) (T : Nat → Nat → Int) (c : Nat → Nat) (f : Nat) (left : Lit → Bool) (i : Nat) : Int :=
  if i = f then 1 else if pvt c d i < d then (if left (.int .i64 ((i : Nat) : Int)) then 0 else (-(T (pvt c d i) f)) % p) else 0
theorem kvL_start {p : Int} {d : Nat} {T : Nat → Nat → Int} {c : Nat → Nat} {f i : Nat} : kvL p d T c f (Maps.has (mD c d)) i = if i = f then 1 else 0 := by
  unfold kvL
  split
  · rfl
  · split
    · rename_i h
      rw [if_pos ((mD_has c _ d).2 ⟨_, h, by rw [pvt_is h]⟩)]
    · rfl
theorem kvL_end {p : Int} {d : Nat} {T : Nat → Nat → Int} {c : Nat → Nat} {f i : Nat} {left : Lit → Bool} (h : ∀ kl, left kl = false) : kvL p d T c f left i = kvF p d T c f i := by
  unfold kvL kvF
  simp [h]
theorem pvt_red {p : Int} {n d : Nat} {T : Nat → Nat → Int} {c : Nat → Nat} (h : Red p n d T c) {r : Nat} (hr : r < d) : pvt c d (c r) = r := pvt_at hr fun s hs => h.inj (by omega) hr (by omega)
theorem kvL_step {p : Int} {n d : Nat} {T : Nat → Nat → Int} {c : Nat → Nat} (h : Red p n d T c) {f r : Nat} (hr : r < d) (hf : frB c d f = true) (left : Lit → Bool) (i : Nat) :
    kvL p d T c f (fun z => left z && !z.sameKey (.int .i64 ((c r : Nat) : Int))) i = if i = c r then (-(T r f)) % p else kvL p d T c f left i := by
  have hne : c r ≠ f := (frB_iff c d f).1 hf r hr
  unfold kvL
  by_cases e : i = c r
  · subst e
    rw [if_neg hne, if_pos rfl, pvt_red h hr, if_pos hr, if_neg (by simp [Lit.sameKey])]
  · rw [if_neg e]
    have : (Lit.int .i64 ((i : Nat) : Int)).sameKey (.int .i64 ((c r : Nat) : Int)) = false := Maps.sameKey_ne (key_ne (by omega))
    simp only [this, Bool.not_false, Bool.and_true]

theorem kInt : Keyed Try.prog 3 := Maps.int_keyed Try.underlying3
theorem zInt (w : World) : (zeroValue 3).run Try.prog w = .ok (.int .i64 0) w := by kernel_rfl

theorem grown_none {w w' : World} (h : Below w.heap.size w w') : w.grownBy w' none := ⟨h.os, h.tape, h.output, h.size, fun k hk _ => h.block k hk⟩
theorem grown_set (w : World) (a : Addr) (u : Value) : w.grownBy (w.setCell a u) (some a.block) := ⟨rfl, rfl, rfl, by rw [setCell_size]; exact Nat.le_refl _, fun k hk hne => Below.heap_setCell _ _ _ _ (fun e => hne (by rw [e]))⟩

set_option maxRecDepth 100000 in
set_option maxHeartbeats 4000000 in
theorem iKernel_c (p : Int) (v : Value) (G n : Nat) (T : Nat → Nat → Int) (w : World) (h : Tab w v G (fun _ => n) T) (hn : 1 ≤ n ∧ n ≤ 1048576) (hG : G ≤ 1048576) (hpr : primeB p = true) (hT : RowsIn p G n T) :
    Calls Try.prog 125 #[.int .i64 p, v, .int .i64 n] w fun e w' => CopyT w w' e (kerS p n (bSt p G T n)).2 (fun _ => n) (kerS p n (bSt p G T n)).1 := by
  have hp := primeB_bd hpr
  have hp0 : p ≠ 0 := by omega
  obtain ⟨c0, hRed0, _, _⟩ := bSt_red hpr hT
  have hdle := (bSt_in (p := p) (n := n) (by omega) hT n).2
  have hBas := iBasis_c p v G n T w h hn hG hp hT
  generalize hQ : bSt p G T n = Q at hRed0 hBas hdle ⊢
  obtain ⟨S, d⟩ := Q
  have hRed : Red p n d S (fun r => ldd n (S r)) := hRed0.lddc
  have hdle : d ≤ G ∧ d ≤ n := hdle
  obtain ⟨c, hc⟩ : ∃ c : Nat → Nat, (fun r => ldd n (S r)) = c := ⟨_, rfl⟩
  have hker : kerS p n (S, d) = bSt p (cnt (frB c d) n) (kerT p n d S c) n := by unfold kerS; rw [← hc]
  have hcl : ∀ r, r < d → ldd n (S r) = c r := fun r _ => by rw [← hc]
  rw [hker]
  rw [hc] at hRed
  have HRed := Lib.hid hRed
  have HCL := Lib.hid hcl
  have HBas := Lib.hid hBas
  obtain ⟨Z, hZ⟩ : ∃ Z, bSt p (cnt (frB c d) n) (kerT p n d S c) n = Z := ⟨_, rfl⟩
  have HZ := Lib.hid hZ
  rw [hZ]
  clear h hRed hRed0 hcl hBas hc hker hQ hZ hT
  have hmm := @run_makeMap Try.prog
  go_enter Try.func125, Try.ntmps125
  go_wp2_with fail
  go_at_call 115
  refine HBas.out.mono ?_
  rintro e w2 ⟨g0, cap0, rfl, hb2, hO2⟩
  have hOM := hO2.bound
  obtain ⟨U, hU⟩ : ∃ U, w2.heap.size = U := ⟨_, rfl⟩
  rw [hU] at hOM
  have hwU : w.heap.size ≤ U := by rw [← hU]; exact hb2.size
  have hB3 : Below w2.heap.size w2 (w2.alloc (.map #[] 0)) := (Below.refl _ _).alloc (Nat.le_refl _) _
  have hM3 : Hid ((w2.alloc (.map #[] 0)).ownsMap Try.prog 3 (plainElem Try.prog 3) U 0 (mD c 0)) := by rw [← hU]; exact World.ownsMap_made _ _ _ _
  have hOM3 := Lib.hid (hOM.kept hB3)
  have hb3 := Lib.hid (hb2.trans (hB3.mono hb2.size))
  clear hOM hB3 hb2 hO2
  go_wp2_with fail
  go_loopg [24] d (fun g i wr => ∃ k : Nat, k ≤ d ∧ g = d - k ∧ i = .int .i64 k ∧ Hid (Below w.heap.size w wr) ∧ Hid (wr.ownsMap Try.prog 3 (plainElem Try.prog 3) U k (mD c k)) ∧ Hid (OTabM wr w.heap.size U g0 cap0 d (fun _ => n) S))
  case atStart => exact ⟨0, Nat.zero_le _, rfl, rfl, hb3.out, hM3.out, hOM3.out⟩
  case round =>
    obtain ⟨k, hk, rfl, rfl, hb, hM, hOM⟩ := hrel
    clear hb3 hM3 hOM3
    by_cases hkd : k < d
    · obtain ⟨r, cr, hcell, hrow⟩ := hOM.out.row hkd
      have hck := HRed.out.piv k hkd
      have HF : Hid (Calls Try.prog 152 #[.slice (some ⟨r, 0, none⟩) n cr] wr fun e w' => e = .returned (.int .i64 ((c k : Nat) : Int)) ∧ wr = w') := by
        have h := iLead_c _ n (S k) wr hrow (by omega)
        rw [HCL.out k hkd] at h
        exact h
      have i0 : (0 : Int) ≤ (k : Int) := by omega
      have i1 : (k : Int) < (d : Int) := by omega
      have hMM := hM.out
      clear hrow
      go_wp2_with (first
        | (go_at_call 152; refine HF.out.mono ?_; rintro e w' ⟨rfl, rfl⟩)
        | (at_mapUpdate; go_must (refine wpList_mapUpdate_own _ rfl _ _ _ 132 rfl 3 3 kInt Try.underlying132 _ U k _ rfl hMM (by unfold maxLen; omega) _ _ _ rfl rfl (Maps.keyOf_int_mk Try.underlying3 (WalkArith.wf_i64 (by omega))) _ [] (plainElem_int Try.underlying3 (WalkArith.wf_i64 (by omega))) ?_); intro w4 hown4 hgr4))
      go_roundg (d - (k + 1))
      case measure => omega
      case rel => exact ⟨k + 1, by omega, rfl, by go_num, hb.out.grown hgr4 hb.out.size (fun q e => by injection e with e; omega), hown4, hOM.out.grown hgr4 (Or.inr (Nat.le_refl _))⟩
    · obtain rfl : k = d := by omega
      have hE2 : Hid (OTab (wr.alloc (.cells #[] 24)) (U + 1) wr.heap.size 0 (cnt (frB c k) 0) (fun _ => n) (kerT p n k S c)) :=
        ((OTab.empty wr).mono (by have := hM.out.lt; omega)).congr (fun i hi => absurd hi (Nat.not_lt_zero _)) (fun i j hi => absurd hi (Nat.not_lt_zero _))
      have hB3 : Below wr.heap.size wr (wr.alloc (.cells #[] 24)) := (Below.refl _ _).alloc (Nat.le_refl _) _
      have hM3 : Hid ((wr.alloc (.cells #[] 24)).ownsMap Try.prog 3 (plainElem Try.prog 3) U k (mD c k)) := hM.out.alloc _
      have hOM3 := Lib.hid (hOM.out.kept hB3)
      have hb3 := Lib.hid (hb.out.trans (hB3.mono hb.out.size))
      have hUlt := hM.out.lt
      clear hB3 hM hOM hb
      go_wp2_with fail
      go_loopg [11, 36] n (fun g s i wr => ∃ j : Nat, j ≤ n ∧ g = n - j ∧ i = .int .i64 j ∧ ∃ gl cl, s = .slice (some ⟨gl, 0, none⟩) (cnt (frB c k) j) cl ∧ U + 1 ≤ gl ∧ Hid (Below w.heap.size w wr) ∧ Hid (wr.ownsMap Try.prog 3 (plainElem Try.prog 3) U k (mD c k)) ∧ Hid (OTabM wr w.heap.size U g0 cap0 k (fun _ => n) S) ∧ Hid (OTab wr (U + 1) gl cl (cnt (frB c k) j) (fun _ => n) (kerT p n k S c)))
      case atStart => exact ⟨0, Nat.zero_le _, rfl, rfl, _, 0, by first | rfl | simp [cnt], by omega, hb3.out, hM3.out, hOM3.out, hE2.out⟩
      case round =>
        obtain ⟨j, hj, rfl, rfl, gl, cl, rfl, hglU, hb', hM', hOM', hT'⟩ := hrel
        clear hb3 hM3 hOM3 hE2
        obtain ⟨wo, rfl⟩ : ∃ wo, wo = wr := ⟨_, rfl⟩
        by_cases hjn : j < n
        · have hMM := hM'.out
          have HF : Hid (Maps.has (mD c k) (.int .i64 ((j : Nat) : Int)) = !frB c k j) := mD_free c k j
          cases hfr : frB c k j
          · rw [hfr] at HF
            have hc1 := cnt_no hfr
            go_wp2_with (first
              | (at_lookup; go_must (refine wpList_lookup_own_ok_int _ rfl _ _ 132 rfl 3 3 .i64 kInt Try.underlying132 Try.underlying3 (zInt _) U k _ rfl hMM _ _ rfl (Maps.keyOf_int_mk Try.underlying3 (WalkArith.wf_i64 (by omega))) ?_); intro cv hat hwc; rw [HF.out]))
            go_roundg (n - (j + 1))
            case measure => omega
            case rel => exact ⟨j + 1, by omega, rfl, by go_num, gl, cl, by rw [hc1], hglU, hb'.out, hM'.out, hOM'.out, by rw [hc1]; exact hT'.out⟩
          · rw [hfr] at HF
            have hc1 := cnt_yes hfr
            have i0 : (0 : Int) ≤ (j : Int) := by omega
            have i1 : (j : Int) < (n : Int) := by omega
            have hUw : U < wo.heap.size := hM'.out.lt
            obtain ⟨V, hV, hpush⟩ := hT'.out.pushAt (show U + 1 ≤ wo.heap.size by omega)
            have HP := Lib.hid hpush
            have HV := Lib.hid hV
            have hcl := cnt_le (frB c k) j
            obtain ⟨gv, hgv⟩ : ∃ gv, wo.heap.size = gv := ⟨_, rfl⟩
            have HMK : Hid (∀ W1 : World, Below wo.heap.size wo W1 → Own W1 2 gv n n (fun _ => .int .i64 0) → Hid (Own (W1.setCell ⟨gv, j, none⟩ (.int .i64 1)) 2 gv n n (fun i => .int .i64 (kvL p k S c j (Maps.has (mD c k)) i)) ∧ Below wo.heap.size wo (W1.setCell ⟨gv, j, none⟩ (.int .i64 1)) ∧ (W1.setCell ⟨gv, j, none⟩ (.int .i64 1)).ownsMap Try.prog 3 (plainElem Try.prog 3) U k (mD c k))) := fun W1 h1 h2 => by
              have hb2 : Below wo.heap.size wo (W1.setCell ⟨gv, j, none⟩ (.int .i64 1)) := h1.setCell (p := ⟨gv, j, none⟩) (Nat.le_of_eq hgv) _
              exact ⟨(h2.set j _).congr fun i hi => by rw [kvL_start]; by_cases e : i = j <;> simp [e], hb2, hMM.kept (grown_none hb2) (by simp)⟩
            have HGV := Lib.hid hgv
            have HFR := Lib.hid hfr
            have HC1 := Lib.hid hc1
            clear hpush hV hfr hc1
            go_wp2_with (first
              | (at_lookup; go_must (refine wpList_lookup_own_ok_int _ rfl _ _ 132 rfl 3 3 .i64 kInt Try.underlying132 Try.underlying3 (zInt _) U k _ rfl hMM _ _ rfl (Maps.keyOf_int_mk Try.underlying3 (WalkArith.wf_i64 (by omega))) ?_); intro cv hat hwc; rw [HF.out])
              | (at_make; refine wpList_mkA _ rfl _ _ _ _ elI rfl rfl .i64 .i64 n rfl rfl (by omega) (by omega) ?_; rw [hgv]; intro W1 hB1 hS1 hO1; have hu := hO1.cell hjn; have hf := hO1.frozen j; rw [← hgv] at hB1; obtain ⟨hOv, hBv, hMv⟩ := (HMK.out W1 hB1 hO1).out; clear hS1)
              | (at_range; obtain ⟨gi, hgi⟩ : ∃ gi, (W1.setCell ⟨gv, j, none⟩ (.int .i64 1)).heap.size = gi := ⟨_, rfl⟩; go_must (refine wpList_range_own _ rfl _ 132 rfl 3 3 kInt Try.underlying132 _ U k _ rfl hMv ?_); rw [hgi]; intro w5 hrg5 hg5 hs5))
            have hgiv : gv < gi := by have := hOv.lt; omega
            have hB5 : Hid (Below wo.heap.size wo w5) := hBv.grown hg5 hBv.size (fun q e => by cases e)
            have hO5 : Hid (Own w5 2 gv n n (fun i => .int .i64 (kvL p k S c j (Maps.has (mD c k)) i))) := hOv.grown hg5 (by intro e; cases e)
            have hR5 := Lib.hid hrg5
            have hUgv : U < gv := by omega
            clear hu hf hO1 hB1 hOv hBv hMv hrg5 hg5 hs5 HMK hMM HF
            go_loopg [16] (Maps.size (mD c k)) (fun g kk wq => ∃ left, Hid (wq.ranges Try.prog 3 (plainElem Try.prog 3) U gi k (mD c k) left g) ∧ Hid (Below wo.heap.size wo wq) ∧ Hid (Own wq 2 gv n n (fun i => .int .i64 (kvL p k S c j left i))))
            case atStart => exact ⟨_, hR5.out, hB5.out, hO5.out⟩
            case round =>
              obtain ⟨left, hrgq, hbq, hOq⟩ := hrel
              clear hR5 hB5 hO5
              have hrq := hrgq.out
              have hV2 := HV.out.kept hbq.out
              go_wp2_with (first
                | (at_next; go_must (refine wpList_next_ranges_ii _ rfl _ rfl 3 3 .i64 .i64 kInt Try.underlying3 Try.underlying3 U gi k _ _ _ rfl hrq ?_ ?_)))
              · intro _ hl0
                go_wp2_with (at_builtin; go_must (refine wpList_push _ rfl _ _ _ _ elR rfl hV2 (.slice (some ⟨gv, 0, none⟩) n n) rfl rfl rfl (by omega) (by omega) ?_); intro g3 c3 w3 hO3 hg3 hgr3)
                go_roundg (n - (j + 1))
                case measure => omega
                case rel =>
                  have hs1 := hb'.out.size
                  have hs2 := hbq.out.size
                  have hgl := hT'.out.lt
                  refine ⟨j + 1, by omega, rfl, by go_num, g3, c3, by rw [HC1.out], by omega, (hb'.out.trans (hbq.out.mono hs1)).grown hgr3 (by omega) (fun q e => by injection e with e; omega), (hM'.out.kept (grown_none hbq.out) (by simp)).kept hgr3 (by simp; omega), (hOM'.out.kept hbq.out).grown hgr3 (Or.inr (by omega)), ?_⟩
                  show OTab _ (U + 1) g3 c3 (cnt (frB c k) (j + 1)) (fun _ => n) (kerT p n k S c)
                  rw [HC1.out]
                  refine (HP.out _ _ _ _ _ _ _ _ hbq.out hOq.out (Nat.le_of_eq HGV.out) hO3 hg3 hgr3).congr (fun i hi => by by_cases e : i = cnt (frB c k) j <;> simp [e]) fun i i' hi hi' => ?_
                  by_cases e : i = cnt (frB c k) j
                  · rw [if_pos e, e]
                    unfold kerT
                    have e2 := sel_new (p := frB c k) HFR.out
                    have e3 := sel_le (p := frB c k) (m := j + 1) (i := cnt (frB c k) j) (by rw [HC1.out]; omega) (n - (j + 1))
                    rw [show j + 1 + (n - (j + 1)) = n by omega, e2] at e3
                    rw [e3]
                    exact kvL_end hl0
                  · rw [if_neg e]
              · intro x cv w6 cnt6 hwx hwc hlx hat hrg6 hlt6 hg6 hs6 hen
                obtain ⟨r, hrk, hrx⟩ := (mD_has c x k).1 (Maps.has_true_of_atKey hat)
                subst hrx
                have hcv : cv = ((r : Nat) : Int) := by
                  have h1 := mD_at c (.map []) k (fun a b ha hb hne => HRed.out.inj ha hb hne) r hrk
                  rw [hat] at h1
                  injection h1 with h1
                  injection h1
                subst hcv
                have hb6 : Below wo.heap.size wo w6 := hbq.out.grown hg6 hbq.out.size (fun q e => by injection e with e; have := HGV.out; omega)
                have hO6 := hOq.out.grown hg6 (by intro e; injection e with e; omega)
                obtain ⟨RR, RC, w1, w2, w3, w4⟩ := (hOM'.out.kept hb6).out
                have e2 := w1.cell hrk
                have e3 := (w3 r hrk).1.cell hjn
                obtain ⟨x, hx⟩ : ∃ x, S r j = x := ⟨_, rfl⟩
                have hxb := HRed.out.inp r hrk j hjn
                rw [hx] at e3 hxb
                have hwn : IntKind.i64.wrap (-x) = -x := wrap_in _ (by omega)
                have hcr := HRed.out.piv r hrk
                have e4 := hO6.cell hcr
                have e5 := hO6.frozen (c r)
                have HX := Lib.hid hx
                have HO6 := Lib.hid hO6
                have HB6 := Lib.hid hb6
                have HRG6 := Lib.hid hrg6
                have HLT := Lib.hid hlt6
                have HKV : Hid (∀ i, kvL p k S c j (fun z => left z && !z.sameKey (.int .i64 ((c r : Nat) : Int))) i = if i = c r then (-(S r j)) % p else kvL p k S c j left i) := kvL_step HRed.out hrk HFR.out left
                have t0 : (0 : Int) ≤ (r : Int) := by omega
                have t1 : (r : Int) < (k : Int) := by omega
                have t2 : (0 : Int) ≤ (c r : Int) := by omega
                have t3 : (c r : Int) < (n : Int) := by omega
                clear hx w1 w3 w4 hb6 hO6 hrg6 hlt6 hg6 hs6 hat hwx hwc hlx hrq hV2
                go_wp2_with (first
                  | (go_at_call 81; refine (iNum_c p (-x) _ (by omega) (by omega) (by omega) (by omega)).mono ?_; rintro e w' ⟨rfl, rfl⟩))
                go_roundg cnt6
                case measure => exact HLT.out
                case rel =>
                  refine ⟨_, HRG6.out.kept (grown_set _ ⟨gv, c r, none⟩ _) (by simp; omega) (by simp; omega), HB6.out.setCell (p := ⟨gv, c r, none⟩) (Nat.le_of_eq HGV.out) _, (HO6.out.set (c r) _).congr fun i hi => ?_⟩
                  rw [HKV.out i]
                  by_cases e : i = c r
                  · rw [if_pos e, if_pos e, HX.out]
                  · rw [if_neg e, if_neg e]
        · obtain rfl : j = n := by omega
          have hml := cnt_le (frB c k) j
          have HB2 : Hid (Calls Try.prog 115 #[.int .i64 p, .slice (some ⟨gl, 0, none⟩) (cnt (frB c k) j) cl] wo fun e w' => CopyT wo w' e Z.2 (fun _ => j) Z.1) := by
            have h := iBasis_c p _ (cnt (frB c k) j) j (kerT p j k S c) wo hT'.out.tab hn (by omega) hp (kerT_in (by omega) j k S c _)
            rw [HZ.out] at h
            exact h
          go_wp2_with fail
          go_at_call 115
          refine HB2.out.mono ?_
          rintro e w4 ⟨g4, c4, rfl, hb4, hO4⟩
          have hs1 := hb'.out.size
          go_wp2
          go_ret
          exact ⟨g4, c4, rfl, hb'.out.trans (hb4.mono hs1), hO4.mono hs1⟩

end Go.Proofs.Ytnnacligfoonbaa
