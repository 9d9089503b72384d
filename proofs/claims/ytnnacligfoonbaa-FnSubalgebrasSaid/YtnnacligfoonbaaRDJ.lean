/-
  The kernel by the program, with its map of places. No condition beside sizes.
-/
import Derived.Test.YtnnacligfoonbaaRJ
import Derived.Test.YtnnacligfoonbaaQC
import Derived.Test.YtnnacligfoonbaaD40
import Derived.Deep.DeepMust
import Derived.Maps.OwnSet
import Derived.Maps.OwnOps
import Derived.Maps.RangeWalk
import Derived.Maps.Views
import Derived.Test.YtnnacligfoonbaaRCJ
import Derived.Test.YtnnacligfoonbaaD31
set_option linter.unusedVariables false
set_option linter.unusedSimpArgs false
namespace Go.Proofs.Ytnnacligfoonbaa
open Go.RowKit
open Go.Maps (Keyed IsMap)

theorem setCell_size (w : World) (a : Addr) (u : Value) : (w.setCell a u).heap.size = w.heap.size := by simp [World.setCell]

theorem Red.lddc {p : Int} {n d : Nat} {T : Nat → Nat → Int} {c : Nat → Nat} (h : Red p n d T c) : Red p n d T (fun r => Go.Proofs.Ytnnacligfoonbaa.ldd n (T r)) :=
  ⟨h.inp, fun r hr => by show Go.Proofs.Ytnnacligfoonbaa.ldd n (T r) < n; rw [h.ldd hr]; exact h.piv r hr, fun r s hrs hs => by show Go.Proofs.Ytnnacligfoonbaa.ldd n (T r) < Go.Proofs.Ytnnacligfoonbaa.ldd n (T s); rw [h.ldd (show r < d by omega), h.ldd hs]; exact h.inc r s hrs hs,
    fun r hr => by show T r (Go.Proofs.Ytnnacligfoonbaa.ldd n (T r)) = 1; rw [h.ldd hr]; exact h.one r hr, fun r s hr hs hne => by show T s (Go.Proofs.Ytnnacligfoonbaa.ldd n (T r)) = 0; rw [h.ldd hr]; exact h.oth r s hr hs hne,
    fun r j hr hj => by have hj : j < Go.Proofs.Ytnnacligfoonbaa.ldd n (T r) := hj; rw [h.ldd hr] at hj; exact h.lead r j hr hj⟩
theorem cB {w W : World} {a : Addr} {u : Value} (h : W.cell? a = some u ∧ Below w.heap.size w W) : Below w.heap.size w W := h.2
theorem sel_le {p : Nat → Bool} {m i : Nat} (h : i < cnt p m) : ∀ e, sel p (m + e) i = sel p m i
  | 0 => rfl
  | e + 1 => by
    have h2 : i < cnt p (m + e) := by
      have : ∀ q, cnt p m ≤ cnt p (m + q) := fun q => by
        induction q with
        | zero => exact Nat.le_refl _
        | succ q ih => show _ ≤ cnt p (m + q) + _; omega
      have := this e; omega
    rw [show m + (e + 1) = (m + e) + 1 from rfl, sel_old h2]
    exact sel_le h e
theorem kvK_succ (p : Int) (T : Nat → Nat → Int) (c : Nat → Nat) (f k j : Nat) : kvK p T c f (k + 1) j = if j = c k then (-(T k f)) % p else kvK p T c f k j := rfl
theorem cnt_no {f : Nat → Bool} {k : Nat} (h : f k = false) : cnt f (k + 1) = cnt f k := by simp [cnt, h]
theorem cnt_yes {f : Nat → Bool} {k : Nat} (h : f k = true) : cnt f (k + 1) = cnt f k + 1 := by simp [cnt, h]

/-- the map of the places of the first k rows -/
def mD (c : Nat → Nat) : Nat → DataW Unit
  | 0 => .map []
  | k + 1 => (mD c k).put (.int .i64 ((c k : Nat) : Int)) (.lit (.int .i64 ((k : Nat) : Int)))
theorem mD_map (c : Nat → Nat) : ∀ k, IsMap (mD c k)
  | 0 => Maps.isMap_empty
  | k + 1 => (mD_map c k).put _ _
theorem key_ne {a b : Int} (h : a ≠ b) : Lit.int .i64 a ≠ Lit.int .i64 b := fun e => by injection e with _ e; exact h e
theorem mD_has (c : Nat → Nat) (x : Int) : ∀ d, Maps.has (mD c d) (.int .i64 x) = true ↔ ∃ r, r < d ∧ ((c r : Nat) : Int) = x
  | 0 => ⟨fun h => by simp [mD, Maps.has_eq] at h, fun ⟨r, hr, _⟩ => absurd hr (Nat.not_lt_zero _)⟩
  | d + 1 => by
    have ih := mD_has c x d
    by_cases e : x = ((c d : Nat) : Int)
    · subst e
      exact ⟨fun _ => ⟨d, by omega, rfl⟩, fun _ => Maps.has_put_same (mD_map c d) (show WideAt.IsKeyLit (.int .i64 ((c d : Nat) : Int)) from trivial) _⟩
    · have h2 : Maps.has (mD c (d + 1)) (.int .i64 x) = Maps.has (mD c d) (.int .i64 x) := Maps.has_put_other (key_ne e) _
      rw [h2, ih]
      exact ⟨fun ⟨r, q1, q2⟩ => ⟨r, by omega, q2⟩, fun ⟨r, q1, q2⟩ => by
        by_cases e2 : r = d
        · rw [e2] at q2; exact absurd q2.symm e
        · exact ⟨r, by omega, q2⟩⟩
theorem mD_at (c : Nat → Nat) (z : DataW Unit) : ∀ d, (∀ r s, r < d → s < d → r ≠ s → c r ≠ c s) → ∀ r, r < d → (mD c d).atKey (.int .i64 ((c r : Nat) : Int)) z = .lit (.int .i64 ((r : Nat) : Int))
  | 0, _, r, hr => absurd hr (Nat.not_lt_zero _)
  | d + 1, hi, r, hr => by
    by_cases e : r = d
    · subst e; exact Maps.atKey_put_same (mD_map c r) (show WideAt.IsKeyLit (.int .i64 ((c r : Nat) : Int)) from trivial) _ _
    · have h2 : (mD c (d + 1)).atKey (.int .i64 ((c r : Nat) : Int)) z = (mD c d).atKey (.int .i64 ((c r : Nat) : Int)) z := Maps.atKey_put_other (key_ne (by have := hi r d (by omega) (by omega) e; omega)) _ _
      rw [h2]
      exact mD_at c z d (fun a b ha hb => hi a b (by omega) (by omega)) r (by omega)
theorem frB_iff (c : Nat → Nat) (d j : Nat) : frB c d j = true ↔ ∀ r, r < d → c r ≠ j := by
  have hl := pvt_le c d j
  constructor
  · intro h r hr
    exact pvt_none (by simpa [frB] using h) hr
  · intro h
    by_cases e : pvt c d j < d
    · exact absurd (pvt_is e) (h _ e)
    · simp [frB]; omega
theorem mD_free (c : Nat → Nat) (d j : Nat) : Maps.has (mD c d) (.int .i64 ((j : Nat) : Int)) = !frB c d j := by
  have h1 := mD_has c (j : Int) d
  have h2 := frB_iff c d j
  cases hf : frB c d j
  · have : ¬ ∀ r, r < d → c r ≠ j := fun h => by rw [h2.2 h] at hf; cases hf
    refine h1.2 ?_
    exact Classical.byContradiction fun hne => this fun r hr e => hne ⟨r, hr, by omega⟩
  · cases hh : Maps.has (mD c d) (.int .i64 ((j : Nat) : Int))
    · rfl
    · obtain ⟨r, hr, e⟩ := h1.1 hh
      exact absurd (by omega) (h2.1 hf r hr)

/-- the list of a free place, but for the places still to come -/
def kvL (p : Int) (d : Nat) (T : Nat → Nat → Int) (c : Nat → Nat) (f : Nat) (left : Lit → Bool) (i : Nat) : Int :=
  if i = f then 1 else if pvt c d i < d then (if left (.int .i64 ((i : Nat) : Int)) then 0 else (-(T (pvt c d i) f)) % p) else 0
theorem kvL_start {p : Int} {d : Nat} {T : Nat → Nat → Int} {c : Nat → Nat} {f i : Nat} : kvL p d T c f (Maps.has (mD c d)) i = if i = f then 1 else 0 := by
  unfold kvL
  split
  · rfl
  · split
    · rename_i h
      rw [if_pos ((mD_has c _ d).2 ⟨_, h, by rw [pvt_is h]⟩)]
    · rfl
theorem kvL_end {p : Int} {d : Nat} {T : Nat → Nat → Int} {c : Nat → Nat} {f i : Nat} {left : Lit → Bool} (h : ∀ kl, left kl = false) : kvL p d T c f left i = kvF p d T c f i := by
  unfold kvL kvF
  simp [h]
theorem pvt_red {p : Int} {n d : Nat} {T : Nat → Nat → Int} {c : Nat → Nat} (h : Red p n d T c) {r : Nat} (hr : r < d) : pvt c d (c r) = r := pvt_at hr fun s hs => h.inj (by omega) hr (by omega)
theorem kvL_step {p : Int} {n d : Nat} {T : Nat → Nat → Int} {c : Nat → Nat} (h : Red p n d T c) {f r : Nat} (hr : r < d) (hf : frB c d f = true) (left : Lit → Bool) (i : Nat) :
    kvL p d T c f (fun z => left z && !z.sameKey (.int .i64 ((c r : Nat) : Int))) i = if i = c r then (-(T r f)) % p else kvL p d T c f left i := by
  have hne : c r ≠ f := (frB_iff c d f).1 hf r hr
  unfold kvL
  by_cases e : i = c r
  · subst e
    rw [if_neg hne, if_pos rfl, pvt_red h hr, if_pos hr, if_neg (by simp [Lit.sameKey])]
  · rw [if_neg e]
    have : (Lit.int .i64 ((i : Nat) : Int)).sameKey (.int .i64 ((c r : Nat) : Int)) = false := Maps.sameKey_ne (key_ne (by omega))
    simp only [this, Bool.not_false, Bool.and_true]

theorem kInt : Keyed Try.prog 3 := Maps.int_keyed Try.underlying3
theorem zInt (w : World) : (zeroValue 3).run Try.prog w = .ok (.int .i64 0) w := by kernel_rfl

theorem grown_none {w w' : World} (h : Below w.heap.size w w') : w.grownBy w' none := ⟨h.os, h.tape, h.output, h.size, fun k hk _ => h.block k hk⟩
theorem grown_set (w : World) (a : Addr) (u : Value) : w.grownBy (w.setCell a u) (some a.block) := ⟨rfl, rfl, rfl, by rw [setCell_size]; exact Nat.le_refl _, fun k hk hne => Below.heap_setCell _ _ _ _ (fun e => hne (by rw [e]))⟩

set_option maxRecDepth 100000 in
set_option maxHeartbeats 4000000 in
theorem iKernel_c (p : Int) (v : Value) (G n : Nat) (T : Nat → Nat → Int) (w : World) (h : Tab w v G (fun _ => n) T) (hn : 1 ≤ n ∧ n ≤ 1048576) (hG : G ≤ 1048576) (hpr : primeB p = true) (hT : RowsIn p G n T) :
    Calls Try.prog 125 #[.int .i64 p, v, .int .i64 n] w fun e w' => CopyT w w' e (kerS p n (bSt p G T n)).2 (fun _ => n) (kerS p n (bSt p G T n)).1 := by
  have hp := primeB_bd hpr
  have hp0 : p ≠ 0 := by omega
  obtain ⟨c0, hRed0, _, _⟩ := bSt_red hpr hT
  have hdle := (bSt_in (p := p) (n := n) (by omega) hT n).2
  have hBas := iBasis_c p v G n T w h hn hG hp hT
  generalize hQ : bSt p G T n = Q at hRed0 hBas hdle ⊢
  obtain ⟨S, d⟩ := Q
  have hRed : Red p n d S (fun r => ldd n (S r)) := hRed0.lddc
  have hdle : d ≤ G ∧ d ≤ n := hdle
  obtain ⟨c, hc⟩ : ∃ c : Nat → Nat, (fun r => ldd n (S r)) = c := ⟨_, rfl⟩
  have hker : kerS p n (S, d) = bSt p (cnt (frB c d) n) (kerT p n d S c) n := by unfold kerS; rw [← hc]
  have hcl : ∀ r, r < d → ldd n (S r) = c r := fun r _ => by rw [← hc]
  rw [hker]
  rw [hc] at hRed
  have HRed := Lib.hid hRed
  have HCL := Lib.hid hcl
  have HBas := Lib.hid hBas
  obtain ⟨Z, hZ⟩ : ∃ Z, bSt p (cnt (frB c d) n) (kerT p n d S c) n = Z := ⟨_, rfl⟩
  have HZ := Lib.hid hZ
  rw [hZ]
  clear h hRed hRed0 hcl hBas hc hker hQ hZ hT
  have hmm := @run_makeMap Try.prog
  go_enter Try.func125, Try.ntmps125
  go_wp2_with fail
  go_at_call 115
  refine HBas.out.mono ?_
  rintro e w2 ⟨g0, cap0, rfl, hb2, hO2⟩
  have hOM := hO2.bound
  obtain ⟨U, hU⟩ : ∃ U, w2.heap.size = U := ⟨_, rfl⟩
  rw [hU] at hOM
  have hwU : w.heap.size ≤ U := by rw [← hU]; exact hb2.size
  have hB3 : Below w2.heap.size w2 (w2.alloc (.map #[] 0)) := (Below.refl _ _).alloc (Nat.le_refl _) _
  have hM3 : Hid ((w2.alloc (.map #[] 0)).ownsMap Try.prog 3 (plainElem Try.prog 3) U 0 (mD c 0)) := by rw [← hU]; exact World.ownsMap_made _ _ _ _
  have hOM3 := Lib.hid (hOM.kept hB3)
  have hb3 := Lib.hid (hb2.trans (hB3.mono hb2.size))
  clear hOM hB3 hb2 hO2
  go_wp2_with fail
  go_loopg [24] d (fun g i wr => ∃ k : Nat, k ≤ d ∧ g = d - k ∧ i = .int .i64 k ∧ Hid (Below w.heap.size w wr) ∧ Hid (wr.ownsMap Try.prog 3 (plainElem Try.prog 3) U k (mD c k)) ∧ Hid (OTabM wr w.heap.size U g0 cap0 d (fun _ => n) S))
  case atStart => exact ⟨0, Nat.zero_le _, rfl, rfl, hb3.out, hM3.out, hOM3.out⟩
  case round =>
    obtain ⟨k, hk, rfl, rfl, hb, hM, hOM⟩ := hrel
    clear hb3 hM3 hOM3
    by_cases hkd : k < d
    · obtain ⟨r, cr, hcell, hrow⟩ := hOM.out.row hkd
      have hck := HRed.out.piv k hkd
      have HF : Hid (Calls Try.prog 152 #[.slice (some ⟨r, 0, none⟩) n cr] wr fun e w' => e = .returned (.int .i64 ((c k : Nat) : Int)) ∧ wr = w') := by
        have h := iLead_c _ n (S k) wr hrow (by omega)
        rw [HCL.out k hkd] at h
        exact h
      have i0 : (0 : Int) ≤ (k : Int) := by omega
      have i1 : (k : Int) < (d : Int) := by omega
      have hMM := hM.out
      clear hrow
      go_wp2_with (first
        | (go_at_call 152; refine HF.out.mono ?_; rintro e w' ⟨rfl, rfl⟩)
        | (at_mapUpdate; go_must (refine wpList_mapUpdate_own _ rfl _ _ _ 132 rfl 3 3 kInt Try.underlying132 _ U k _ rfl hMM (by unfold maxLen; omega) _ _ _ rfl rfl (Maps.keyOf_int_mk Try.underlying3 (WalkArith.wf_i64 (by omega))) _ [] (plainElem_int Try.underlying3 (WalkArith.wf_i64 (by omega))) ?_); intro w4 hown4 hgr4))
      go_roundg (d - (k + 1))
      case measure => omega
      case rel => exact ⟨k + 1, by omega, rfl, by go_num, hb.out.grown hgr4 hb.out.size (fun q e => by injection e with e; omega), hown4, hOM.out.grown hgr4 (Or.inr (Nat.le_refl _))⟩
    · obtain rfl : k = d := by omega
      have hE2 : Hid (OTab (wr.alloc (.cells #[] 24)) (U + 1) wr.heap.size 0 (cnt (frB c k) 0) (fun _ => n) (kerT p n k S c)) :=
        ((OTab.empty wr).mono (by have := hM.out.lt; omega)).congr (fun i hi => absurd hi (Nat.not_lt_zero _)) (fun i j hi => absurd hi (Nat.not_lt_zero _))
      have hB3 : Below wr.heap.size wr (wr.alloc (.cells #[] 24)) := (Below.refl _ _).alloc (Nat.le_refl _) _
      have hM3 : Hid ((wr.alloc (.cells #[] 24)).ownsMap Try.prog 3 (plainElem Try.prog 3) U k (mD c k)) := hM.out.alloc _
      have hOM3 := Lib.hid (hOM.out.kept hB3)
      have hb3 := Lib.hid (hb.out.trans (hB3.mono hb.out.size))
      have hUlt := hM.out.lt
      clear hB3 hM hOM hb
      go_wp2_with fail
      go_loopg [11, 36] n (fun g s i wr => ∃ j : Nat, j ≤ n ∧ g = n - j ∧ i = .int .i64 j ∧ ∃ gl cl, s = .slice (some ⟨gl, 0, none⟩) (cnt (frB c k) j) cl ∧ U + 1 ≤ gl ∧ Hid (Below w.heap.size w wr) ∧ Hid (wr.ownsMap Try.prog 3 (plainElem Try.prog 3) U k (mD c k)) ∧ Hid (OTabM wr w.heap.size U g0 cap0 k (fun _ => n) S) ∧ Hid (OTab wr (U + 1) gl cl (cnt (frB c k) j) (fun _ => n) (kerT p n k S c)))
      case atStart => exact ⟨0, Nat.zero_le _, rfl, rfl, _, 0, by first | rfl | simp [cnt], by omega, hb3.out, hM3.out, hOM3.out, hE2.out⟩
      case round =>
        obtain ⟨j, hj, rfl, rfl, gl, cl, rfl, hglU, hb', hM', hOM', hT'⟩ := hrel
        clear hb3 hM3 hOM3 hE2
        obtain ⟨wo, rfl⟩ : ∃ wo, wo = wr := ⟨_, rfl⟩
        by_cases hjn : j < n
        · have hMM := hM'.out
          have HF : Hid (Maps.has (mD c k) (.int .i64 ((j : Nat) : Int)) = !frB c k j) := mD_free c k j
          cases hfr : frB c k j
          · rw [hfr] at HF
            have hc1 := cnt_no hfr
            go_wp2_with (first
              | (at_lookup; go_must (refine wpList_lookup_own_ok_int _ rfl _ _ 132 rfl 3 3 .i64 kInt Try.underlying132 Try.underlying3 (zInt _) U k _ rfl hMM _ _ rfl (Maps.keyOf_int_mk Try.underlying3 (WalkArith.wf_i64 (by omega))) ?_); intro cv hat hwc; rw [HF.out]))
            go_roundg (n - (j + 1))
            case measure => omega
            case rel => exact ⟨j + 1, by omega, rfl, by go_num, gl, cl, by rw [hc1], hglU, hb'.out, hM'.out, hOM'.out, by rw [hc1]; exact hT'.out⟩
          · rw [hfr] at HF
            have hc1 := cnt_yes hfr
            have i0 : (0 : Int) ≤ (j : Int) := by omega
            have i1 : (j : Int) < (n : Int) := by omega
            have hUw : U < wo.heap.size := hM'.out.lt
            obtain ⟨V, hV, hpush⟩ := hT'.out.pushAt (show U + 1 ≤ wo.heap.size by omega)
            have HP := Lib.hid hpush
            have HV := Lib.hid hV
            have hcl := cnt_le (frB c k) j
            obtain ⟨gv, hgv⟩ : ∃ gv, wo.heap.size = gv := ⟨_, rfl⟩
            have HMK : Hid (∀ W1 : World, Below wo.heap.size wo W1 → Own W1 2 gv n n (fun _ => .int .i64 0) → Hid (Own (W1.setCell ⟨gv, j, none⟩ (.int .i64 1)) 2 gv n n (fun i => .int .i64 (kvL p k S c j (Maps.has (mD c k)) i)) ∧ Below wo.heap.size wo (W1.setCell ⟨gv, j, none⟩ (.int .i64 1)) ∧ (W1.setCell ⟨gv, j, none⟩ (.int .i64 1)).ownsMap Try.prog 3 (plainElem Try.prog 3) U k (mD c k))) := fun W1 h1 h2 => by
              have hb2 : Below wo.heap.size wo (W1.setCell ⟨gv, j, none⟩ (.int .i64 1)) := h1.setCell (p := ⟨gv, j, none⟩) (Nat.le_of_eq hgv) _
              exact ⟨(h2.set j _).congr fun i hi => by rw [kvL_start]; by_cases e : i = j <;> simp [e], hb2, hMM.kept (grown_none hb2) (by simp)⟩
            have HGV := Lib.hid hgv
            have HFR := Lib.hid hfr
            have HC1 := Lib.hid hc1
            clear hpush hV hfr hc1
            go_wp2_with (first
              | (at_lookup; go_must (refine wpList_lookup_own_ok_int _ rfl _ _ 132 rfl 3 3 .i64 kInt Try.underlying132 Try.underlying3 (zInt _) U k _ rfl hMM _ _ rfl (Maps.keyOf_int_mk Try.underlying3 (WalkArith.wf_i64 (by omega))) ?_); intro cv hat hwc; rw [HF.out])
              | (at_make; refine wpList_mkA _ rfl _ _ _ _ elI rfl rfl .i64 .i64 n rfl rfl (by omega) (by omega) ?_; rw [hgv]; intro W1 hB1 hS1 hO1; have hu := hO1.cell hjn; have hf := hO1.frozen j; rw [← hgv] at hB1; obtain ⟨hOv, hBv, hMv⟩ := (HMK.out W1 hB1 hO1).out; clear hS1)
              | (at_range; obtain ⟨gi, hgi⟩ : ∃ gi, (W1.setCell ⟨gv, j, none⟩ (.int .i64 1)).heap.size = gi := ⟨_, rfl⟩; go_must (refine wpList_range_own _ rfl _ 132 rfl 3 3 kInt Try.underlying132 _ U k _ rfl hMv ?_); rw [hgi]; intro w5 hrg5 hg5 hs5))
            have hgiv : gv < gi := by have := hOv.lt; omega
            have hB5 : Hid (Below wo.heap.size wo w5) := hBv.grown hg5 hBv.size (fun q e => by cases e)
            have hO5 : Hid (Own w5 2 gv n n (fun i => .int .i64 (kvL p k S c j (Maps.has (mD c k)) i))) := hOv.grown hg5 (by intro e; cases e)
            have hR5 := Lib.hid hrg5
            have hUgv : U < gv := by omega
            clear hu hf hO1 hB1 hOv hBv hMv hrg5 hg5 hs5 HMK hMM HF
            go_loopg [16] (Maps.size (mD c k)) (fun g kk wq => ∃ left, Hid (wq.ranges Try.prog 3 (plainElem Try.prog 3) U gi k (mD c k) left g) ∧ Hid (Below wo.heap.size wo wq) ∧ Hid (Own wq 2 gv n n (fun i => .int .i64 (kvL p k S c j left i))))
            case atStart => exact ⟨_, hR5.out, hB5.out, hO5.out⟩
            case round =>
              obtain ⟨left, hrgq, hbq, hOq⟩ := hrel
              clear hR5 hB5 hO5
              have hrq := hrgq.out
              have hV2 := HV.out.kept hbq.out
              go_wp2_with (first
                | (at_next; go_must (refine wpList_next_ranges_ii _ rfl _ rfl 3 3 .i64 .i64 kInt Try.underlying3 Try.underlying3 U gi k _ _ _ rfl hrq ?_ ?_)))
              · intro _ hl0
                go_wp2_with (at_builtin; go_must (refine wpList_push _ rfl _ _ _ _ elR rfl hV2 (.slice (some ⟨gv, 0, none⟩) n n) rfl rfl rfl (by omega) (by omega) ?_); intro g3 c3 w3 hO3 hg3 hgr3)
                go_roundg (n - (j + 1))
                case measure => omega
                case rel =>
                  have hs1 := hb'.out.size
                  have hs2 := hbq.out.size
                  have hgl := hT'.out.lt
                  refine ⟨j + 1, by omega, rfl, by go_num, g3, c3, by rw [HC1.out], by omega, (hb'.out.trans (hbq.out.mono hs1)).grown hgr3 (by omega) (fun q e => by injection e with e; omega), (hM'.out.kept (grown_none hbq.out) (by simp)).kept hgr3 (by simp; omega), (hOM'.out.kept hbq.out).grown hgr3 (Or.inr (by omega)), ?_⟩
                  show OTab _ (U + 1) g3 c3 (cnt (frB c k) (j + 1)) (fun _ => n) (kerT p n k S c)
                  rw [HC1.out]
                  refine (HP.out _ _ _ _ _ _ _ _ hbq.out hOq.out (Nat.le_of_eq HGV.out) hO3 hg3 hgr3).congr (fun i hi => by by_cases e : i = cnt (frB c k) j <;> simp [e]) fun i i' hi hi' => ?_
                  by_cases e : i = cnt (frB c k) j
                  · rw [if_pos e, e]
                    unfold kerT
                    have e2 := sel_new (p := frB c k) HFR.out
                    have e3 := sel_le (p := frB c k) (m := j + 1) (i := cnt (frB c k) j) (by rw [HC1.out]; omega) (n - (j + 1))
                    rw [show j + 1 + (n - (j + 1)) = n by omega, e2] at e3
                    rw [e3]
                    exact kvL_end hl0
                  · rw [if_neg e]
              · intro x cv w6 cnt6 hwx hwc hlx hat hrg6 hlt6 hg6 hs6 hen
                obtain ⟨r, hrk, hrx⟩ := (mD_has c x k).1 (Maps.has_true_of_atKey hat)
                subst hrx
                have hcv : cv = ((r : Nat) : Int) := by
                  have h1 := mD_at c (.map []) k (fun a b ha hb hne => HRed.out.inj ha hb hne) r hrk
                  rw [hat] at h1
                  injection h1 with h1
                  injection h1
                subst hcv
                have hb6 : Below wo.heap.size wo w6 := hbq.out.grown hg6 hbq.out.size (fun q e => by injection e with e; have := HGV.out; omega)
                have hO6 := hOq.out.grown hg6 (by intro e; injection e with e; omega)
                obtain ⟨RR, RC, w1, w2, w3, w4⟩ := (hOM'.out.kept hb6).out
                have e2 := w1.cell hrk
                have e3 := (w3 r hrk).1.cell hjn
                obtain ⟨x, hx⟩ : ∃ x, S r j = x := ⟨_, rfl⟩
                have hxb := HRed.out.inp r hrk j hjn
                rw [hx] at e3 hxb
                have hwn : IntKind.i64.wrap (-x) = -x := wrap_in _ (by omega)
                have hcr := HRed.out.piv r hrk
                have e4 := hO6.cell hcr
                have e5 := hO6.frozen (c r)
                have HX := Lib.hid hx
                have HO6 := Lib.hid hO6
                have HB6 := Lib.hid hb6
                have HRG6 := Lib.hid hrg6
                have HLT := Lib.hid hlt6
                have HKV : Hid (∀ i, kvL p k S c j (fun z => left z && !z.sameKey (.int .i64 ((c r : Nat) : Int))) i = if i = c r then (-(S r j)) % p else kvL p k S c j left i) := kvL_step HRed.out hrk HFR.out left
                have t0 : (0 : Int) ≤ (r : Int) := by omega
                have t1 : (r : Int) < (k : Int) := by omega
                have t2 : (0 : Int) ≤ (c r : Int) := by omega
                have t3 : (c r : Int) < (n : Int) := by omega
                clear hx w1 w3 w4 hb6 hO6 hrg6 hlt6 hg6 hs6 hat hwx hwc hlx hrq hV2
                go_wp2_with (first
                  | (go_at_call 81; refine (iNum_c p (-x) _ (by omega) (by omega) (by omega) (by omega)).mono ?_; rintro e w' ⟨rfl, rfl⟩))
                go_roundg cnt6
                case measure => exact HLT.out
                case rel =>
                  refine ⟨_, HRG6.out.kept (grown_set _ ⟨gv, c r, none⟩ _) (by simp; omega) (by simp; omega), HB6.out.setCell (p := ⟨gv, c r, none⟩) (Nat.le_of_eq HGV.out) _, (HO6.out.set (c r) _).congr fun i hi => ?_⟩
                  rw [HKV.out i]
                  by_cases e : i = c r
                  · rw [if_pos e, if_pos e, HX.out]
                  · rw [if_neg e, if_neg e]
        · obtain rfl : j = n := by omega
          have hml := cnt_le (frB c k) j
          have HB2 : Hid (Calls Try.prog 115 #[.int .i64 p, .slice (some ⟨gl, 0, none⟩) (cnt (frB c k) j) cl] wo fun e w' => CopyT wo w' e Z.2 (fun _ => j) Z.1) := by
            have h := iBasis_c p _ (cnt (frB c k) j) j (kerT p j k S c) wo hT'.out.tab hn (by omega) hp (kerT_in (by omega) j k S c _)
            rw [HZ.out] at h
            exact h
          go_wp2_with fail
          go_at_call 115
          refine HB2.out.mono ?_
          rintro e w4 ⟨g4, c4, rfl, hb4, hO4⟩
          have hs1 := hb'.out.size
          go_wp2
          go_ret
          exact ⟨g4, c4, rfl, hb'.out.trans (hb4.mono hs1), hO4.mono hs1⟩

end Go.Proofs.Ytnnacligfoonbaa

/-
  The kernel by the reference: l12Kernel. No condition beside sizes.
-/
set_option linter.unusedVariables false
set_option linter.unusedSimpArgs false
namespace Go.Proofs.Ytnnacligfoonbaa
open Go.RowKit

theorem idx_nonneg (X : Nat → Int) (x : Int) : ∀ n, (0 ≤ idx X x n ↔ ∃ j, j < n ∧ X j = x) := by
  intro n
  constructor
  · intro h
    by_cases e : ∃ j, j < n ∧ X j = x
    · exact e
    · have := idx_none (f := X) (x := x) (n := n) fun j hj hx => e ⟨j, hj, hx⟩
      omega
  · rintro ⟨j, hj, hx⟩
    have key : ∀ m, (∃ j, j < m ∧ X j = x) → ∃ k, k < m ∧ (∀ i, i < k → X i ≠ x) ∧ X k = x := by
      intro m
      induction m with
      | zero => rintro ⟨j, hj, _⟩; omega
      | succ m ih =>
        rintro ⟨j, hj, hx⟩
        by_cases e : ∃ j, j < m ∧ X j = x
        · obtain ⟨k, h1, h2, h3⟩ := ih e
          exact ⟨k, by omega, h2, h3⟩
        · have : j = m := by
            by_cases e2 : j < m
            · exact absurd ⟨j, e2, hx⟩ e
            · omega
          subst this
          exact ⟨j, by omega, fun i hi hxi => e ⟨i, hi, hxi⟩, hx⟩
    obtain ⟨k, h1, h2, h3⟩ := key n ⟨j, hj, hx⟩
    rw [idx_at h1 h2 h3]
    omega

set_option maxRecDepth 100000 in
set_option maxHeartbeats 400000 in
/-- the pivots have a place just if it is not free -/
theorem sHasP_c (v : Value) (d j : Nat) (c : Nat → Nat) (w : World) (h : Ints w v d (fun i => ((c i : Nat) : Int))) (hd : d ≤ 1048576) :
    Calls Try.prog 153 #[v, .int .i64 j] w fun e w' => e = .returned (.bool (!frB c d j)) ∧ w = w' := by
  obtain ⟨q, hq⟩ : ∃ q, idx (fun i => ((c i : Nat) : Int)) (j : Int) d = q := ⟨_, rfl⟩
  have hI : Hid (Calls Try.prog 159 #[v, .int .i64 j] w fun e w' => e = .returned (.int .i64 q) ∧ w = w') := hq ▸ sIndex_c v d (fun i => ((c i : Nat) : Int)) (j : Int) w h
  have hb : Hid (decide (0 ≤ q) = !frB c d j) := by
    have h1 := idx_nonneg (fun i => ((c i : Nat) : Int)) (j : Int) d
    rw [hq] at h1
    show decide (0 ≤ q) = !frB c d j
    cases hf : frB c d j
    · have hl := pvt_le c d j
      have hne : pvt c d j ≠ d := by simpa [frB] using hf
      have := pvt_is (show pvt c d j < d by omega)
      simp only [Bool.not_false, decide_eq_true_eq]
      exact h1.2 ⟨pvt c d j, by omega, by show ((c (pvt c d j) : Nat) : Int) = j; rw [this]⟩
    · have he : pvt c d j = d := by simpa [frB] using hf
      simp only [Bool.not_true, decide_eq_false_iff_not]
      intro h0
      obtain ⟨i, hi, hx⟩ := h1.1 h0
      exact pvt_none he hi (by exact_mod_cast hx)
  clear hq
  go_enter Try.func153, Try.ntmps153
  go_wp2_with fail
  refine hI.out.mono ?_
  rintro e w1 ⟨rfl, rfl⟩
  go_wp2
  go_ret
  exact ⟨by rw [← hb.out]; rfl, rfl⟩

set_option maxRecDepth 100000 in
set_option maxHeartbeats 4000000 in
theorem sK12_c (p : Int) (v : Value) (G n : Nat) (T : Nat → Nat → Int) (w : World) (h : Tab w v G (fun _ => n) T) (hn : 1 ≤ n ∧ n ≤ 1000) (hG : G ≤ 1048576) (hpr : primeB p = true) (hT : RowsIn p G n T) :
    Calls Try.prog 127 #[.int .i64 p, .int .i64 n, v] w fun e w' => CopyT w w' e (kerA p n (putA p n T G)).2 (fun _ => n) (kerA p n (putA p n T G)).1 := by
  have hp := primeB_bd hpr
  have hp0 : p ≠ 0 := by omega
  obtain ⟨c0, hRed0⟩ := (putA_of hpr hT).red
  have hdle := (putA_of hpr hT).le
  have hBas := sReduced_c p v G n T w h hn hG hpr hT
  generalize hQ : putA p n T G = Q at hRed0 hBas hdle ⊢
  obtain ⟨S, d⟩ := Q
  have hRed : Red p n d S (fun r => ldd n (S r)) := hRed0.lddc
  have hdle : d ≤ n := hdle
  obtain ⟨c, hc⟩ : ∃ c : Nat → Nat, (fun r => ldd n (S r)) = c := ⟨_, rfl⟩
  have hker : kerA p n (S, d) = putA p n (kerT p n d S c) (cnt (frB c d) n) := by unfold kerA; rw [← hc]
  have hcl : ∀ r, r < d → ldd n (S r) = c r := fun r _ => by rw [← hc]
  rw [hker]
  rw [hc] at hRed
  have HRed := Lib.hid hRed
  have HCL := Lib.hid hcl
  have HBas := Lib.hid hBas
  obtain ⟨Z, hZ⟩ : ∃ Z, putA p n (kerT p n d S c) (cnt (frB c d) n) = Z := ⟨_, rfl⟩
  have HZ := Lib.hid hZ
  rw [hZ]
  have hZd : Z.2 ≤ n := by
    have h1 := (putA_of hpr (kerT_in (p := p) (by omega) n d S c (cnt (frB c d) n))).le
    rwa [hZ] at h1
  clear h hRed hRed0 hcl hBas hc hker hQ hZ hT
  go_enter Try.func127, Try.ntmps127
  go_wp2_with fail
  go_at_call 117
  refine HBas.out.mono ?_
  rintro e w2 ⟨g0, cap0, rfl, hb2, hO2'⟩
  have hbw := hb2
  have hO2 := Lib.hid hO2'
  have hgb0 := hO2.out.base
  have hOM := hO2.out.bound
  obtain ⟨U, hU⟩ : ∃ U, w2.heap.size = U := ⟨_, rfl⟩
  rw [hU] at hOM
  have hwU : w.heap.size ≤ U := by rw [← hU]; exact hbw.size
  have hE1 : Hid (Own ((w2.alloc (.cells #[] 24)).alloc (.cells #[] 2)) 2 (U + 1) 0 0 (fun i => .int .i64 ((c i : Nat) : Int))) := by
    have h := Own.empty (w2.alloc (.cells #[] 24)) 2 (fun i => .int .i64 ((c i : Nat) : Int))
    rw [alloc_size, hU] at h
    exact h
  have hE2 : Hid (Own ((w2.alloc (.cells #[] 24)).alloc (.cells #[] 2)) 24 U 0 0 (fun _ => .int .i64 0)) := by rw [← hU]; exact (Own.empty w2 24 _).alloc _
  have hB3 : Below w2.heap.size w2 ((w2.alloc (.cells #[] 24)).alloc (.cells #[] 2)) := ((Below.refl _ _).alloc (Nat.le_refl _) _).alloc (by simp) _
  have hOM3 := Lib.hid (hOM.kept hB3)
  have hb3 := Lib.hid (hbw.trans (hB3.mono hbw.size))
  clear hOM hB3 hb2 hO2 hbw hO2'
  go_wp2_with fail
  go_loopg [9, 10] d (fun g s i wr => ∃ k : Nat, k ≤ d ∧ g = d - k ∧ i = .int .i64 k ∧ ∃ gp cp, s = .slice (some ⟨gp, 0, none⟩) k cp ∧ U ≤ gp ∧ gp ≠ U ∧ Hid (Below w.heap.size w wr) ∧ Hid (Own wr 2 gp cp k (fun i => .int .i64 ((c i : Nat) : Int))) ∧ Hid (OTabM wr w.heap.size U g0 cap0 d (fun _ => n) S) ∧ Hid (Own wr 24 U 0 0 (fun _ => .int .i64 0)))
  case atStart => exact ⟨0, Nat.zero_le _, rfl, rfl, U + 1, 0, by first | rfl | simp [hU], Nat.le_succ U, by omega, hb3.out, hE1.out, hOM3.out, hE2.out⟩
  case round =>
    obtain ⟨k, hk, rfl, rfl, gp, cp, rfl, hgU, hgne, hb, hP, hOM, hL⟩ := hrel
    clear hb3 hE1 hE2 hOM3
    by_cases hkd : k < d
    · obtain ⟨r, cr, hcell, hrow⟩ := hOM.out.row hkd
      have HF : Hid (Calls Try.prog 147 #[.slice (some ⟨r, 0, none⟩) n cr] wr fun e w' => e = .returned (.int .i64 ((c k : Nat) : Int)) ∧ wr = w') := by
        have h := sFst_c _ n (S k) wr hrow (by omega)
        rw [HCL.out k hkd] at h
        exact h
      have i0 : (0 : Int) ≤ (k : Int) := by omega
      have i1 : (k : Int) < (d : Int) := by omega
      have hPP := hP.out
      clear hrow
      go_wp2_with (first
        | (go_at_call 147; refine HF.out.mono ?_; rintro e w' ⟨rfl, rfl⟩)
        | (at_builtin; go_must (refine wpList_push _ rfl _ _ _ _ elI rfl hPP (.int .i64 ((c k : Nat) : Int)) rfl rfl rfl (by omega) (by omega) ?_); intro g3 c3 w3 hO3 hg3 hgr3))
      go_roundg (d - (k + 1))
      case measure => omega
      case rel =>
        have hs := hb.out.size
        have hl := hL.out.lt
        have hgl := hPP.lt
        refine ⟨k + 1, by omega, rfl, by go_num, g3, c3, rfl, by omega, by omega, hb.out.grown hgr3 hs (fun q e => by injection e with e; omega), hO3.congr fun i hi => ?_, hOM.out.grown hgr3 (Or.inr hgU), hL.out.grown hgr3 (by intro e; injection e with e; omega)⟩
        by_cases e : i = k
        · subst e; simp
        · simp [e]
    · obtain rfl : k = d := by omega
      have hT0 : Hid (OTab wr U U 0 (cnt (frB c k) 0) (fun _ => n) (kerT p n k S c)) := ⟨fun _ => 0, fun _ => 0, ⟨hL.out.out.imp fun cur h => ⟨h.1, h.2.1, fun i hi => absurd hi (Nat.not_lt_zero _)⟩, Nat.zero_le _, Nat.zero_le _⟩, Nat.le_refl U, fun i hi => absurd hi (Nat.not_lt_zero _), fun i j hi => absurd hi (Nat.not_lt_zero _)⟩
      clear hL
      go_wp2_with fail
      go_loopg [8, 11] n (fun g s i wr => ∃ j : Nat, j ≤ n ∧ g = n - j ∧ i = .int .i64 j ∧ ∃ gl cl, s = .slice (some ⟨gl, 0, none⟩) (cnt (frB c k) j) cl ∧ U ≤ gl ∧ gl ≠ gp ∧ Hid (Below w.heap.size w wr) ∧ Hid (Own wr 2 gp cp k (fun i => .int .i64 ((c i : Nat) : Int))) ∧ Hid (OTabM wr w.heap.size U g0 cap0 k (fun _ => n) S) ∧ Hid (OTab wr U gl cl (cnt (frB c k) j) (fun _ => n) (kerT p n k S c)))
      case atStart => exact ⟨0, Nat.zero_le _, rfl, rfl, U, 0, by first | rfl | simp [hU, cnt], Nat.le_refl U, fun e => hgne e.symm, hb.out, hP.out, hOM.out, hT0.out⟩
      case round =>
        obtain ⟨j, hj, rfl, rfl, gl, cl, rfl, hglU, hglne, hb', hP', hOM', hT'⟩ := hrel
        clear hb hP hOM hT0
        obtain ⟨wo, rfl⟩ : ∃ wo, wo = wr := ⟨_, rfl⟩
        by_cases hjn : j < n
        · have HH : Hid (Calls Try.prog 153 #[.slice (some ⟨gp, 0, none⟩) k cp, .int .i64 j] wo fun e w' => e = .returned (.bool (!frB c k j)) ∧ wo = w') := sHasP_c _ k j c wo hP'.out.ints (by omega)
          cases hfr : frB c k j
          · rw [hfr] at HH
            have hc1 := cnt_no hfr
            go_wp2_with (first | (go_at_call 153; refine HH.out.mono ?_; rintro e w' ⟨rfl, rfl⟩))
            go_roundg (n - (j + 1))
            case measure => omega
            case rel => exact ⟨j + 1, by omega, rfl, by go_num, gl, cl, by rw [hc1], hglU, hglne, hb'.out, hP'.out, hOM'.out, by rw [hc1]; exact hT'.out⟩
          · rw [hfr] at HH
            have hc1 := cnt_yes hfr
            have i0 : (0 : Int) ≤ (j : Int) := by omega
            have i1 : (j : Int) < (n : Int) := by omega
            obtain ⟨V, hV, hpush⟩ := hT'.out.pushAt (show U ≤ wo.heap.size by have := hT'.out.lt; omega)
            have HP := Lib.hid hpush
            have HV := Lib.hid hV
            have hcl := cnt_le (frB c k) j
            have HMK : Hid (∀ W1 : World, Below wo.heap.size wo W1 → Own W1 2 wo.heap.size n n (fun _ => .int .i64 0) → Hid (Own (W1.setCell ⟨wo.heap.size, j, none⟩ (.int .i64 1)) 2 wo.heap.size n n (fun i => .int .i64 (kvK p S c j 0 i)) ∧ Below wo.heap.size wo (W1.setCell ⟨wo.heap.size, j, none⟩ (.int .i64 1)))) := fun W1 h1 h2 =>
              ⟨(h2.set j _).congr fun i hi => by unfold kvK; by_cases e : i = j <;> simp [e], h1.setCell (p := ⟨wo.heap.size, j, none⟩) (Nat.le_refl _) _⟩
            obtain ⟨gv, hgv⟩ : ∃ gv, wo.heap.size = gv := ⟨_, rfl⟩
            have hgvU : U ≤ gv := by have := hT'.out.lt; omega
            rw [hgv] at HMK
            have HGV := Lib.hid hgv
            have HFR := Lib.hid hfr
            have HC1 := Lib.hid hc1
            clear hpush hV hfr hc1
            go_wp2_with (first
              | (go_at_call 153; refine HH.out.mono ?_; rintro e w' ⟨rfl, rfl⟩)
              | (at_make; refine wpList_mkA _ rfl _ _ _ _ elI rfl rfl .i64 .i64 n rfl rfl (by omega) (by omega) ?_; rw [hgv]; intro W1 hB1 hS1 hO1; have hu := hO1.cell hjn; have hf := hO1.frozen j; have HO2 := HMK.out W1 hB1 hO1; clear hS1))
            obtain ⟨hOv, hBv⟩ := HO2.out
            clear hu hf hB1 hO1 HO2 HMK
            go_loopg [13] k (fun g i wq => ∃ q : Nat, q ≤ k ∧ g = k - q ∧ i = .int .i64 q ∧ Hid (Below gv wo wq) ∧ Hid (Own wq 2 gv n n (fun i => .int .i64 (kvK p S c j q i))))
            case atStart => exact ⟨0, Nat.zero_le _, rfl, rfl, hBv, hOv⟩
            case round =>
              obtain ⟨q, hq, rfl, rfl, hbq', hOq⟩ := hrel
              clear hBv hOv
              have hbq : Below wo.heap.size wo wr := by rw [HGV.out]; exact hbq'.out
              by_cases hqk : q < k
              · obtain ⟨RR, RC, w1, w2, w3, w4⟩ := (hOM'.out.kept hbq).out
                have e1 := (hP'.out.kept hbq).cell hqk
                have e2 := w1.cell hqk
                have e3 := (w3 q hqk).1.cell hjn
                obtain ⟨x, hx⟩ : ∃ x, S q j = x := ⟨_, rfl⟩
                have hxb := HRed.out.inp q hqk j hjn
                rw [hx] at e3 hxb
                have hwn : IntKind.i64.wrap (-x) = -x := wrap_in _ (by omega)
                obtain ⟨z, hz⟩ : ∃ z, (-x) % p = z := ⟨_, rfl⟩
                have HMod : Hid (∀ W, Calls Try.prog 82 #[.int .i64 p, .int .i64 (-x)] W fun e w' => e = .returned (.int .i64 z) ∧ W = w') := fun W => hz ▸ sMod_c p (-x) W (by omega) (by omega) (by omega) (by omega)
                have hcq := HRed.out.piv q hqk
                have e4 := hOq.out.cell hcq
                have e5 := hOq.out.frozen (c q)
                have HX := Lib.hid hx
                have HZ2 := Lib.hid hz
                have t0 : (0 : Int) ≤ (q : Int) := by omega
                have t1 : (q : Int) < (k : Int) := by omega
                have t2 : (0 : Int) ≤ (c q : Int) := by omega
                have t3 : (c q : Int) < (n : Int) := by omega
                clear hx hz w1 w3 w4 hbq
                go_wp2
                go_region_law (first | (go_simp; go_at_call 82; refine (HMod.out _).mono ?_; rintro e w' ⟨rfl, rfl⟩))
                all_goals go_wp2
                all_goals go_roundg (k - (q + 1))
                all_goals first
                  | omega
                  | exact ⟨q + 1, by omega, rfl, by go_num, (hbq'.out.setCell (p := ⟨gv, c q, none⟩) (Nat.le_refl _) _).drew, ((hOq.out.set (c q) _).drew).congr fun i hi => by
                      rw [kvK_succ]
                      by_cases e : i = c q
                      · rw [if_pos e, if_pos e, HX.out, HZ2.out]
                      · rw [if_neg e, if_neg e]⟩
              · obtain rfl : q = k := by omega
                have hV2 := HV.out.kept hbq
                go_wp2_with (at_builtin; go_must (refine wpList_push _ rfl _ _ _ _ elR rfl hV2 (.slice (some ⟨gv, 0, none⟩) n n) rfl rfl rfl (by omega) (by omega) ?_); intro g3 c3 w3 hO3 hg3 hgr3)
                go_roundg (n - (j + 1))
                case measure => omega
                case rel =>
                  have hs1 := hb'.out.size
                  have hs2 := hbq.size
                  have hgl := hT'.out.lt
                  have hgpl := hP'.out.lt
                  refine ⟨j + 1, by omega, rfl, by go_num, g3, c3, by rw [HC1.out], by omega, by omega, (hb'.out.trans (hbq.mono hs1)).grown hgr3 (by omega) (fun q e => by injection e with e; omega), (hP'.out.kept hbq).grown hgr3 (by intro e; injection e with e; omega), (hOM'.out.kept hbq).grown hgr3 (Or.inr hglU), ?_⟩
                  show OTab _ U g3 c3 (cnt (frB c q) (j + 1)) (fun _ => n) (kerT p n q S c)
                  rw [HC1.out]
                  refine (HP.out _ _ _ _ _ _ _ _ hbq hOq.out (Nat.le_of_eq HGV.out) hO3 hg3 hgr3).congr (fun i hi => by by_cases e : i = cnt (frB c q) j <;> simp [e]) fun i i' hi hi' => ?_
                  by_cases e : i = cnt (frB c q) j
                  · rw [if_pos e, e]
                    unfold kerT
                    have e2 := sel_new (p := frB c q) HFR.out
                    have e3 := sel_le (p := frB c q) (m := j + 1) (i := cnt (frB c q) j) (by rw [HC1.out]; omega) (n - (j + 1))
                    rw [show j + 1 + (n - (j + 1)) = n by omega, e2] at e3
                    rw [e3]
                    exact kvK_eq HRed.out HFR.out i'
                  · rw [if_neg e]
        · obtain rfl : j = n := by omega
          have hml := cnt_le (frB c k) j
          have HB2 : Hid (Calls Try.prog 117 #[.int .i64 p, .slice (some ⟨gl, 0, none⟩) (cnt (frB c k) j) cl] wo fun e w' => CopyT wo w' e Z.2 (fun _ => j) Z.1) := by
            have h := sReduced_c p _ (cnt (frB c k) j) j (kerT p j k S c) wo hT'.out.tab hn (by omega) hpr (kerT_in (by omega) j k S c _)
            rw [HZ.out] at h
            exact h
          go_wp2_with fail
          go_at_call 117
          refine HB2.out.mono ?_
          rintro e w4 ⟨g4, c4, rfl, hb4, hO4⟩
          have hs1 := hb'.out.size
          go_wp2
          go_ret
          exact ⟨g4, c4, rfl, hb'.out.trans (hb4.mono hs1), hO4.mono hs1⟩

end Go.Proofs.Ytnnacligfoonbaa

/-
  AnnihilatorOf in both programs. No condition beside sizes.
-/
set_option linter.unusedVariables false
set_option linter.unusedSimpArgs false
namespace Go.Proofs.Ytnnacligfoonbaa
open Go.RowKit

/-- the matrix of a product from the left -/
def lmT (p : Int) (s : Nat → Int) (n : Nat) (X : Nat → Int) (i j : Nat) : Int := mulF p s n X (dlt j) i
theorem lmT_in {p : Int} (hp : 0 < p) (s : Nat → Int) (n : Nat) (X : Nat → Int) : RowsIn p (2 ^ n) (2 ^ n) (lmT p s n X) := fun i hi j hj => mulF_in hp s n X (dlt j) (2 ^ n) i hi
/-- the reduced rows of what an element annihilates -/
def annS (p : Int) (s : Nat → Int) (n : Nat) (X : Nat → Int) : (Nat → Nat → Int) × Nat := kerS p (2 ^ n) (bSt p (2 ^ n) (lmT p s n X) (2 ^ n))
theorem annS_same {p : Int} (hp : primeB p = true) (s : Nat → Int) (n : Nat) (X : Nat → Int) :
    (annS p s n X).2 = (kerA p (2 ^ n) (putA p (2 ^ n) (lmT p s n X) (2 ^ n))).2 ∧ ∀ r j, r < (annS p s n X).2 → j < 2 ^ n → (annS p s n X).1 r j = (kerA p (2 ^ n) (putA p (2 ^ n) (lmT p s n X) (2 ^ n))).1 r j := by
  have hb := primeB_bd hp
  have h := bSt_putA hp (lmT_in (p := p) (by omega) s n X)
  exact ker_same hp h.1 h.2
theorem annS_le {p : Int} (hp : primeB p = true) (s : Nat → Int) (n : Nat) (X : Nat → Int) : (annS p s n X).2 ≤ 2 ^ n := by
  have hb := primeB_bd hp
  exact (bSt_of hp (kerT_in (p := p) (by omega) (2 ^ n) _ _ _ _)).le

set_option maxRecDepth 100000 in
set_option maxHeartbeats 2000000 in
theorem iAnnih_c (p : Int) (sv : Value) (n : Nat) (s : Nat → Int) (xv : Value) (nx : Nat) (X : Nat → Int) (w : World)
    (h : Ints w sv n s) (hx : Ints w xv nx X) :
    Calls Try.prog 65 #[dbl p sv, xv] w fun e w' => ResCT w w' e (codeE (dblB p n s) p n 1 (fun _ => nx) (fun _ => X)) (annS p s n X).2 (fun _ => 2 ^ n) (annS p s n X).1 := by
  have h' := h
  obtain ⟨ao, c, _, _, rfl, qh⟩ := h.out
  clear qh
  obtain ⟨xa, xc, _, _, rfl, qx⟩ := hx.out
  clear qx
  have BX := Lib.hid (box0 w p ao n c 26)
  have b0 := BX.out.2.2.2
  have BL : Hid (Below w.heap.size w ((w.alloc (.cells #[.int .i64 p, .slice ao n c] 26)).alloc (.cells #[.slice xa nx xc] 24))) := b0.alloc b0.size _
  have ht := list1 24 (hx.below b0)
  rw [show (w.alloc (.cells #[.int .i64 p, .slice ao n c] 26)).heap.size = w.heap.size + 1 by simp] at ht
  have HT := Lib.hid ht
  clear ht
  have bA : Below (w.alloc (.cells #[.int .i64 p, .slice ao n c] 26)).heap.size (w.alloc (.cells #[.int .i64 p, .slice ao n c] 26)) ((w.alloc (.cells #[.int .i64 p, .slice ao n c] 26)).alloc (.cells #[.slice xa nx xc] 24)) := (Below.refl _ _).alloc (Nat.le_refl _) _
  have BXA := Lib.hid (boxKeep bA BX.out)
  obtain ⟨e0, e1, e2, e3⟩ := BX.out
  obtain ⟨cc, hcc⟩ : ∃ cc, codeE (dblB p n s) p n 1 (fun _ => nx) (fun _ => X) = cc := ⟨_, rfl⟩
  by_cases h0 : cc = 0
  · obtain ⟨hok, hel⟩ := codeE_zero (hcc.trans h0)
    have hv := dv_of h' hok
    have hpr := (dblB_ok hok).prime
    have hpb := primeB_bd hpr
    obtain ⟨l0, x0⟩ := elemB_el hx (hel 0 (by omega))
    have hn4 := hv.le
    have hp16 := pow_le hn4
    have hM0 := x0.pos
    have HC := Lib.hid hcc
    have H' := Lib.hid h'
    have HLf : Hid (∀ W, Below w.heap.size w W → Calls Try.prog 126 #[dbl p (.slice ao n c), .slice xa nx xc] W fun e w' => CopyT W w' e (2 ^ n) (fun _ => 2 ^ n) (lmT p s n X)) := fun W hb => iLeft_c p _ _ n s X W (hv.below hb) (x0.below hb) (by omega)
    have HK : Hid (∀ W v, Tab W v (2 ^ n) (fun _ => 2 ^ n) (lmT p s n X) → Calls Try.prog 125 #[.int .i64 p, v, .int .i64 ((2 ^ n : Nat) : Int)] W fun e w' => CopyT W w' e (annS p s n X).2 (fun _ => 2 ^ n) (annS p s n X).1) := fun W v h =>
      iKernel_c p v (2 ^ n) (2 ^ n) (lmT p s n X) W h ⟨hM0, by omega⟩ (by omega) hpr (lmT_in (by omega) s n X)
    have HZ : Hid (∀ W, Calls Try.prog 88 #[dbl p (.slice ao n c)] W fun e w' => Makes W w' e (.int .i64 ((2 ^ n : Nat) : Int))) := fun W => iSize_c p ao n c W hn4
    obtain ⟨Z, hZ⟩ : ∃ Z, annS p s n X = Z := ⟨_, rfl⟩
    obtain ⟨M, hM⟩ : ∃ M, 2 ^ n = M := ⟨_, rfl⟩
    rw [hZ, hM] at HK ⊢
    rw [hM] at HLf
    rw [hM] at HZ
    clear h hx x0 hel bA h' l0 hok hv hZ hM hpr hn4 hp16 hM0 hpb
    subst h0
    go_enter Try.func65, Try.ntmps65
    go_wp2_with fail
    go_at_call 83
    refine Calls.makes' (iCheckE_c p _ _ n 1 s _ _ _ (H'.out.below BL.out) HT.out) _ fun w1 hb1 => ?_
    rw [HC.out]
    obtain ⟨f0, f1, f2, f3⟩ := boxKeep hb1 BXA.out
    have BX1 := Lib.hid (boxKeep hb1 BXA.out)
    clear e0 e1 e2 e3 BX BXA b0
    go_wp2
    go_region_held3 (fun W => W.cell? ⟨w.heap.size, 0, none⟩ = some (.int .i64 p) ∧ W.cell? ⟨w.heap.size, 1, none⟩ = some (.slice ao n c) ∧ w.heap.size < W.heap.size ∧ Below w.heap.size w W)
      ((first | assumption | exact boxDrew ⟨f0, f1, f2, f3⟩ | exact boxKeep (by assumption) (by assumption)))
      ((first
        | (go_at_call 125; have hx := hb5; refine (HK.out _ _ (hO4.tab.below hb5)).mono ?_; rintro e w6 ⟨g6, c6, rfl, hb6, hO6⟩)
        | (go_at_call 88; refine Calls.makes' (HZ.out _) _ fun w5 hb5 => ?_)
        | (go_at_call 126; refine (HLf.out _ (boxBelow (by assumption))).mono ?_; rintro e w4 ⟨g4, c4, rfl, hb4, hO4⟩)
        | (go_at_call 80; refine Calls.makes' (iField_c _ _ _) _ fun w3 hb3 => ?_)))
    have b6 : Below w.heap.size w w6 := boxBelow (by assumption)
    have t3 := hb3.size
    have t4 := hb4.size
    have t5 := hb5.size
    have t1 := f3.size
    simp at t3
    go_wp2
    go_ret2
    exact ⟨b6, Or.inl ⟨HC.out, g6, c6, rfl, hO6.mono (by omega)⟩⟩
  · have HC := Lib.hid hcc
    have H' := Lib.hid h'
    have hne : (cc != 0) = true := by rw [bne_iff_ne]; exact h0
    obtain ⟨Z, hZ⟩ : ∃ Z, annS p s n X = Z := ⟨_, rfl⟩
    obtain ⟨M, hM⟩ : ∃ M, 2 ^ n = M := ⟨_, rfl⟩
    rw [hZ, hM]
    clear h hx bA h' hZ hM
    go_enter Try.func65, Try.ntmps65
    go_wp2_with fail
    go_at_call 83
    refine Calls.makes' (iCheckE_c p _ _ n 1 s _ _ _ (H'.out.below BL.out) HT.out) _ fun w1 hb1 => ?_
    rw [HC.out]
    go_wp2
    go_ret2
    exact ⟨BL.out.trans (hb1.mono BL.out.size), Or.inr ⟨by rw [HC.out]; exact h0, by rw [HC.out]; rfl⟩⟩

set_option maxRecDepth 100000 in
set_option maxHeartbeats 2000000 in
theorem sAnnih_c (p : Int) (sv : Value) (n : Nat) (s : Nat → Int) (xv : Value) (nx : Nat) (X : Nat → Int) (w : World)
    (h : Ints w sv n s) (hx : Ints w xv nx X) :
    Calls Try.prog 66 #[dbl p sv, xv] w fun e w' => ResCT w w' e (codeE (dblB p n s) p n 1 (fun _ => nx) (fun _ => X)) (annS p s n X).2 (fun _ => 2 ^ n) (annS p s n X).1 := by
  have h' := h
  obtain ⟨ao, c, _, _, rfl, qh⟩ := h.out
  clear qh
  obtain ⟨xa, xc, _, _, rfl, qx⟩ := hx.out
  clear qx
  have BX := Lib.hid (box0 w p ao n c 26)
  have b0 := BX.out.2.2.2
  have BL : Hid (Below w.heap.size w ((w.alloc (.cells #[.int .i64 p, .slice ao n c] 26)).alloc (.cells #[.slice xa nx xc] 24))) := b0.alloc b0.size _
  have ht := list1 24 (hx.below b0)
  rw [show (w.alloc (.cells #[.int .i64 p, .slice ao n c] 26)).heap.size = w.heap.size + 1 by simp] at ht
  have HT := Lib.hid ht
  clear ht
  have bA : Below (w.alloc (.cells #[.int .i64 p, .slice ao n c] 26)).heap.size (w.alloc (.cells #[.int .i64 p, .slice ao n c] 26)) ((w.alloc (.cells #[.int .i64 p, .slice ao n c] 26)).alloc (.cells #[.slice xa nx xc] 24)) := (Below.refl _ _).alloc (Nat.le_refl _) _
  have BXA := Lib.hid (boxKeep bA BX.out)
  obtain ⟨e0, e1, e2, e3⟩ := BX.out
  obtain ⟨cc, hcc⟩ : ∃ cc, codeE (dblB p n s) p n 1 (fun _ => nx) (fun _ => X) = cc := ⟨_, rfl⟩
  by_cases h0 : cc = 0
  · obtain ⟨hok, hel⟩ := codeE_zero (hcc.trans h0)
    have hv := dv_of h' hok
    have hpr := (dblB_ok hok).prime
    have hpb := primeB_bd hpr
    obtain ⟨l0, x0⟩ := elemB_el hx (hel 0 (by omega))
    have hn4 := hv.le
    have hp16 := pow_le hn4
    have hM0 := x0.pos
    have HC := Lib.hid hcc
    have H' := Lib.hid h'
    have HLf : Hid (∀ W, Below w.heap.size w W → Calls Try.prog 128 #[dbl p (.slice ao n c), .slice xa nx xc] W fun e w' => CopyT W w' e (2 ^ n) (fun _ => 2 ^ n) (lmT p s n X)) := fun W hb => sLeft_c p _ _ n s X W (hv.below hb) (x0.below hb) (by omega)
    have HK : Hid (∀ W v, Tab W v (2 ^ n) (fun _ => 2 ^ n) (lmT p s n X) → Calls Try.prog 127 #[.int .i64 p, .int .i64 ((nx : Nat) : Int), v] W fun e w' => CopyT W w' e (annS p s n X).2 (fun _ => 2 ^ n) (annS p s n X).1) := fun W v h => by
      have hs := annS_same hpr s n X
      have hk := sK12_c p v (2 ^ n) (2 ^ n) (lmT p s n X) W h ⟨hM0, by omega⟩ (by omega) hpr (lmT_in (by omega) s n X)
      rw [← l0] at hk ⊢
      exact hk.mono fun e w' h => h.turn (by rw [l0]; exact hs.1.symm) fun i j hi hj => by
        rw [l0] at hi hj ⊢
        exact (hs.2 i j (by rw [hs.1]; exact hi) hj).symm
    obtain ⟨Z, hZ⟩ : ∃ Z, annS p s n X = Z := ⟨_, rfl⟩
    obtain ⟨M, hM⟩ : ∃ M, 2 ^ n = M := ⟨_, rfl⟩
    rw [hZ, hM] at HK ⊢
    rw [hM] at HLf
    clear h hx x0 hel bA h' l0 hok hv hZ hM hpr hn4 hp16 hM0 hpb
    subst h0
    go_enter Try.func66, Try.ntmps66
    go_wp2_with fail
    go_at_call 92
    refine Calls.makes' (sCode_c p _ _ n 1 s _ _ _ (H'.out.below BL.out) HT.out) _ fun w1 hb1 => ?_
    rw [HC.out]
    obtain ⟨f0, f1, f2, f3⟩ := boxKeep hb1 BXA.out
    have BX1 := Lib.hid (boxKeep hb1 BXA.out)
    clear e0 e1 e2 e3 BX BXA b0
    go_wp2
    go_region_held3 (fun W => W.cell? ⟨w.heap.size, 0, none⟩ = some (.int .i64 p) ∧ W.cell? ⟨w.heap.size, 1, none⟩ = some (.slice ao n c) ∧ w.heap.size < W.heap.size ∧ Below w.heap.size w W)
      ((first | assumption | exact boxDrew ⟨f0, f1, f2, f3⟩ | exact boxKeep (by assumption) (by assumption)))
      ((first
        | (go_at_call 127; refine (HK.out _ _ hO4.tab).mono ?_; rintro e w6 ⟨g6, c6, rfl, hb6, hO6⟩)
        | (go_at_call 128; refine (HLf.out _ (boxBelow (by assumption))).mono ?_; rintro e w4 ⟨g4, c4, rfl, hb4, hO4⟩)))
    have b6 : Below w.heap.size w w6 := boxBelow (by assumption)
    have t4 := hb4.size
    have t1 := f3.size
    simp at t4
    go_wp2
    go_ret2
    exact ⟨b6, Or.inl ⟨HC.out, g6, c6, rfl, hO6.mono (by omega)⟩⟩
  · have HC := Lib.hid hcc
    have H' := Lib.hid h'
    have hne : (cc != 0) = true := by rw [bne_iff_ne]; exact h0
    obtain ⟨Z, hZ⟩ : ∃ Z, annS p s n X = Z := ⟨_, rfl⟩
    obtain ⟨M, hM⟩ : ∃ M, 2 ^ n = M := ⟨_, rfl⟩
    rw [hZ, hM]
    clear h hx bA h' hZ hM
    go_enter Try.func66, Try.ntmps66
    go_wp2_with fail
    go_at_call 92
    refine Calls.makes' (sCode_c p _ _ n 1 s _ _ _ (H'.out.below BL.out) HT.out) _ fun w1 hb1 => ?_
    rw [HC.out]
    go_wp2
    go_ret2
    exact ⟨BL.out.trans (hb1.mono BL.out.size), Or.inr ⟨by rw [HC.out]; exact h0, by rw [HC.out]; rfl⟩⟩


end Go.Proofs.Ytnnacligfoonbaa
