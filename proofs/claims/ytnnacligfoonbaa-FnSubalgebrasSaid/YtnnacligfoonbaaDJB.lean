/-
  Doublings: products and the code of elements, in both programs. No condition beside sizes.
-/
import Derived.Test.YtnnacligfoonbaaD15
set_option linter.unusedVariables false
set_option linter.unusedSimpArgs false
namespace Go.Proofs.Ytnnacligfoonbaa
open Go.RowKit

theorem cellKp {W W' : World} {b o : Nat} {v : Value} (hb : Below W.heap.size W W') (h : W.cell? ⟨b, o, none⟩ = some v) : W'.cell? ⟨b, o, none⟩ = some v := by
  rw [hb.cell (p := ⟨b, o, none⟩) (lt_of_cell h)]; exact h
theorem drewB (W : World) : Below W.heap.size W W.drew := ⟨rfl, rfl, rfl, Nat.le_refl _, fun _ _ => rfl⟩
theorem boxBelow {w W : World} {p : Int} {ao : Option Addr} {n c : Nat} (h : BoxD w p ao n c W) : Below w.heap.size w W := h.2.2.2

/-- an element of a doubling at a world -/
structure El (w : World) (v : Value) (p : Int) (n : Nat) (X : Nat → Int) : Prop where
  ints : Ints w v (2 ^ n) X
  inp : InP p (2 ^ n) X
theorem El.below {w w' : World} {v : Value} {p : Int} {n : Nat} {X : Nat → Int} (h : El w v p n X) (hb : Below w.heap.size w w') : El w' v p n X := ⟨h.ints.below hb, h.inp⟩
theorem El.pos {w : World} {v : Value} {p : Int} {n : Nat} {X : Nat → Int} (h : El w v p n X) : 0 < 2 ^ n := Nat.pos_of_ne_zero (by simp)
theorem pow_le {n : Nat} (h : n ≤ 4) : 2 ^ n ≤ 16 := by
  have : n = 0 ∨ n = 1 ∨ n = 2 ∨ n = 3 ∨ n = 4 := by omega
  rcases this with rfl | rfl | rfl | rfl | rfl <;> decide
/-- A call that makes an element. -/
structure MakesE (w w' : World) (e : Ending) (p : Int) (n : Nat) (X : Nat → Int) : Prop where
  out : ∃ g c, e = .returned (.slice (some ⟨g, 0, none⟩) (2 ^ n) c) ∧ w.heap.size ≤ g ∧ Below w.heap.size w w' ∧ Own w' 2 g c (2 ^ n) (fun i => .int .i64 (X i)) ∧ El w' (.slice (some ⟨g, 0, none⟩) (2 ^ n) c) p n X
theorem CopyI.makesE {w w' : World} {e : Ending} {p : Int} {n : Nat} {X : Nat → Int} (h : CopyI w w' e (2 ^ n) X) (hX : InP p (2 ^ n) X) : MakesE w w' e p n X := by
  obtain ⟨g, c, rfl, hg, hb, hO⟩ := h.out
  exact ⟨g, c, rfl, hg, hb, hO, hO.ints, hX⟩

set_option maxRecDepth 100000 in
set_option maxHeartbeats 4000000 in
theorem iTimes_c (p : Int) (sv xv yv : Value) (n : Nat) (s X Y : Nat → Int) (w : World) (hd : DV w sv p n s) (hx : El w xv p n X) (hy : El w yv p n Y) :
    Calls Try.prog 91 #[dbl p sv, xv, yv] w fun e w' => MakesE w w' e p n (mulF p s n X Y) := by
  have hdb : ∀ W, Below w.heap.size w W → DV W sv p n s := fun W hb => hd.below hb
  have hxb : ∀ W, Below w.heap.size w W → El W xv p n X := fun W hb => hx.below hb
  have hyb : ∀ W, Below w.heap.size w W → El W yv p n Y := fun W hb => hy.below hb
  obtain ⟨ao, c, b, o, rfl, _⟩ := hd.ints.out
  obtain ⟨e0, e1, e2, e3⟩ := box0 w p ao n c 26
  have HD := Lib.hid hdb
  have HX := Lib.hid hxb
  have HY := Lib.hid hyb
  obtain ⟨hints, hp1, hp2, hn4, hsm⟩ := hd
  have HS := Lib.hid hsm
  have hm := mulF_in (p := p) (by omega) s n X Y (2 ^ n)
  have HM := Lib.hid hm
  obtain ⟨M, hM⟩ : ∃ M, M = 2 ^ n := ⟨_, rfl⟩
  clear hdb hxb hyb hx hy hints hsm hm
  go_enter Try.func91, Try.ntmps91
  go_wp2
  go_region_held3 (fun W => W.cell? ⟨w.heap.size, 0, none⟩ = some (.int .i64 p) ∧ W.cell? ⟨w.heap.size, 1, none⟩ = some (.slice ao n c) ∧ w.heap.size < W.heap.size ∧ Below w.heap.size w W)
    ((first | assumption | exact boxDrew ⟨e0, e1, e2, e3⟩ | exact boxKeep (by assumption) (by assumption)))
    ((first
      | (go_at_call 80; refine Calls.makes' (iField_c _ _ _) _ fun w1 hb1 => ?_)
      | (go_at_call 137; refine (iDouble_c p hp1 hp2 s n hn4 HS.out _ _ _ X Y _ (HD.out _ (boxBelow (by assumption))).ints (HX.out _ (boxBelow (by assumption))).ints (HY.out _ (boxBelow (by assumption))).ints (HX.out _ (boxBelow (by assumption))).inp (HY.out _ (boxBelow (by assumption))).inp).mono ?_; rintro e w2 ⟨g2, c2, rfl, hg2, hb2, hO2⟩)))
  have b2 : Below w.heap.size w w2 := boxBelow (by assumption)
  have b1 : w.heap.size ≤ w1.heap.size := by have := hb1.size; simp at this; omega
  go_wp2
  go_ret
  exact ⟨g2, c2, rfl, by omega, b2, hO2, hO2.ints, HM.out⟩

set_option maxRecDepth 100000 in
set_option maxHeartbeats 4000000 in
theorem sTimes_c (p : Int) (sv xv yv : Value) (n : Nat) (s X Y : Nat → Int) (w : World) (hd : DV w sv p n s) (hx : El w xv p n X) (hy : El w yv p n Y) :
    Calls Try.prog 93 #[dbl p sv, xv, yv] w fun e w' => MakesE w w' e p n (mulF p s n X Y) := by
  obtain ⟨ao, c, b, o, rfl, _⟩ := hd.ints.out
  obtain ⟨e0, e1, e2, e3⟩ := box0 w p ao n c 26
  have HD := Lib.hid (hd.below e3)
  have HX := Lib.hid (hx.below e3)
  have HY := Lib.hid (hy.below e3)
  obtain ⟨hints, hp1, hp2, hn4, hsm⟩ := hd
  have HS := Lib.hid hsm
  have HM := Lib.hid (mulF_in (p := p) (by omega) s n X Y (2 ^ n))
  clear hx hy hints hsm
  go_enter Try.func93, Try.ntmps93
  go_wp2_with fail
  refine (sMul_c p hp1 hp2 s n hn4 HS.out _ _ _ X Y _ HD.out.ints HX.out.ints HY.out.ints HX.out.inp HY.out.inp).mono ?_
  rintro e w2 ⟨g2, c2, rfl, hg2, hb2, hO2⟩
  go_wp2
  go_ret
  exact ⟨g2, c2, rfl, by simp at hg2; omega, e3.trans (hb2.mono e3.size), hO2, hO2.ints, HM.out⟩

end Go.Proofs.Ytnnacligfoonbaa

/-
  Doublings: the code of a list of elements, in both programs. No condition beside sizes.
-/
set_option linter.unusedVariables false
set_option linter.unusedSimpArgs false
namespace Go.Proofs.Ytnnacligfoonbaa
open Go.RowKit

def elemB (p : Int) (n L : Nat) (X : Nat → Int) : Bool := decide (L = 2 ^ n) && inPB 0 p L X
theorem elemB_ne {p : Int} {n L : Nat} {X : Nat → Int} (h : L ≠ 2 ^ n) : elemB p n L X = false := by unfold elemB; rw [decide_eq_false h]; rfl
theorem elemB_eq {p : Int} {n L : Nat} {X : Nat → Int} (h : L = 2 ^ n) : elemB p n L X = inPB 0 p L X := by unfold elemB; rw [decide_eq_true h]; rfl
theorem elemB_out {p : Int} {n L : Nat} {X : Nat → Int} (h : inPB 0 p L X = false) : elemB p n L X = false := by unfold elemB; rw [h]; simp
theorem elemB_el {w : World} {v : Value} {p : Int} {n L : Nat} {X : Nat → Int} (h : Ints w v L X) (he : elemB p n L X = true) : L = 2 ^ n ∧ El w v p n X := by
  unfold elemB at he
  simp only [Bool.and_eq_true, decide_eq_true_eq] at he
  obtain ⟨rfl, h2⟩ := he
  exact ⟨rfl, h, inPB_ok h2⟩
/-- the code of m elements -/
def codeE (ok : Bool) (p : Int) (n m : Nat) (L : Nat → Nat) (T : Nat → Nat → Int) : Int := if ok then (if anyB (fun i => !elemB p n (L i) (T i)) m then 2 else 0) else 1

set_option maxHeartbeats 400000 in
/-- slices.IndexFunc over a table, the test a closure over one pointer, that makes memory and turns none. -/
theorem iIndexFuncRI_c (f : FuncId) (hcf : ∀ (a : Array Value) (W : World), (callFunc f a).run Try.prog W = .ok (.enter f a) W) (cp : Value) (v : Value) (G : Nat) (L : Nat → Nat) (T : Nat → Nat → Int) (p : Nat → Bool) (w : World) (h : Tab w v G L T)
    (hf : ∀ i, i < G → ∀ W u, Below w.heap.size w W → Ints W u (L i) (T i) → Calls Try.prog f #[u, cp] W fun e W' => Makes W W' e (.bool (p i))) :
    Calls Try.prog 156 #[v, .func (.func f) #[] #[cp]] w fun e w' => Makes w w' e (.int .i64 (idxB p G)) := by
  obtain ⟨ao, c, b, o, A, C, RB, RO, rfl, p2, p3, p4, p5, p6, p7, p8⟩ := h.out
  have hr := fun i hi => Tab.rowAt p6 p7 p8 (i := i) hi
  have Hr := Lib.hid hr
  have P5 := Lib.hid p5
  have HF := Lib.hid hf
  clear p5 p6 p7 p8 h hf hr
  go_enter Try.func156, Try.ntmps156
  go_wp2
  go_loopg [8] G (fun g i wr => ∃ k : Nat, k ≤ G ∧ g = G - k ∧ i = .int .i64 k ∧ Below w.heap.size w wr ∧ ∀ j, j < k → p j = false)
  case atStart => exact ⟨0, Nat.zero_le _, rfl, rfl, Below.refl _ _, fun j hj => absurd hj (Nat.not_lt_zero _)⟩
  case round =>
    obtain ⟨k, hk, rfl, rfl, hb, hall⟩ := hrel
    have HA := Lib.hid hall; clear hall
    by_cases hlt : k < G
    · obtain rfl := p4 (by omega)
      have e1 : wr.cell? ⟨b, o + k, none⟩ = some (.slice (A k) (L k) (C k)) := by rw [hb.cell (p := ⟨b, o + k, none⟩) (lt_of_cell (P5.out k hlt))]; exact P5.out k hlt
      have hbs := hb.size
      go_wp2_with fail
      refine Calls.makes' (HF.out k hlt _ _ hb ((Hr.out k hlt).below hb)) _ fun w1 hb1 => ?_
      cases hp : p k
      · go_wp2
        go_roundg (G - (k + 1))
        case measure => omega
        case rel => exact ⟨k + 1, by omega, rfl, by go_num, hb.trans (hb1.mono hbs), fun j hj => by
          by_cases e : j = k
          · subst e; exact hp
          · exact HA.out j (by omega)⟩
      · go_wp2
        go_ret
        exact ⟨ret_i64 (idxB_at hlt HA.out hp).symm, hb.trans (hb1.mono hbs)⟩
    · obtain rfl : k = G := by omega
      go_wp2
      go_ret
      exact ⟨ret_i64 (idxB_none HA.out).symm, hb⟩

theorem iContainsFuncRI_c (f : FuncId) (hcf : ∀ (a : Array Value) (W : World), (callFunc f a).run Try.prog W = .ok (.enter f a) W) (cp : Value) (v : Value) (G : Nat) (L : Nat → Nat) (T : Nat → Nat → Int) (p : Nat → Bool) (w : World) (h : Tab w v G L T)
    (hf : ∀ i, i < G → ∀ W u, Below w.heap.size w W → Ints W u (L i) (T i) → Calls Try.prog f #[u, cp] W fun e W' => Makes W W' e (.bool (p i))) :
    Calls Try.prog 135 #[v, .func (.func f) #[] #[cp]] w fun e w' => Makes w w' e (.bool (anyB p G)) := by
  have HF := Lib.hid hf
  clear hf
  go_enter Try.func135, Try.ntmps135
  go_wp2_with fail
  refine Calls.makes' (iIndexFuncRI_c f hcf _ _ _ _ _ p _ h HF.out) _ fun w1 hb1 => ?_
  go_wp2
  go_ret
  exact ⟨rfl, hb1⟩

set_option maxRecDepth 100000 in
set_option maxHeartbeats 400000 in
theorem iCk1_c (p : Int) (bb : Nat) (ao : Option Addr) (n c : Nat) (v : Value) (L : Nat) (X : Nat → Int) (w : World) (h : Ints w v L X) (h1 : 1 ≤ p) (h2 : p ≤ 1000) (hn : n ≤ 4)
    (c0 : w.cell? ⟨bb, 0, none⟩ = some (.int .i64 p)) (c1 : w.cell? ⟨bb, 1, none⟩ = some (.slice ao n c)) :
    Calls Try.prog 136 #[v, .pointer (some ⟨bb, 0, none⟩)] w fun e w' => Makes w w' e (.bool (!elemB p n L X)) := by
  have hi : ∀ W, Below w.heap.size w W → Ints W v L X := fun W hb => h.below hb
  obtain ⟨xa, xc, b, o, rfl, p2, p3, _⟩ := h.out
  have HI := Lib.hid hi
  obtain ⟨M, hM⟩ : ∃ M, 2 ^ n = M := ⟨_, rfl⟩
  have hsz : ∀ W, Calls Try.prog 88 #[dbl p (.slice ao n c)] W fun e w' => Makes W w' e (.int .i64 ((M : Nat) : Int)) := fun W => hM ▸ iSize_c p ao n c W hn
  have HZ := Lib.hid hsz
  have hM16 : M ≤ 16 := hM ▸ pow_le hn
  have z0 := cellKp (drewB w) c0
  have z1 := cellKp (drewB w) c1
  by_cases hL : L = M
  · have hel : elemB p n L X = inPB 0 p L X := elemB_eq (hL.trans hM.symm)
    subst hL
    have hd : ((L : Int) != (L : Int)) = false := by simp
    rw [hel]
    obtain ⟨q, hq⟩ : ∃ q, inPB 0 p L X = q := ⟨_, rfl⟩
    have his : ∀ W, Below w.heap.size w W → Calls Try.prog 95 #[.int .i64 p, .slice xa L xc] W fun e w' => e = .returned (.bool q) ∧ W = w' := fun W hb => hq ▸ iIs_c p _ L X W (HI.out W hb) h1 h2
    have HIS := Lib.hid his
    rw [hq]
    clear hi h hsz his hel hq hM
    clear z0 z1
    go_enter Try.func136, Try.ntmps136
    go_wp2_with fail
    refine Calls.makes' (HZ.out _) _ fun w1 hb1 => ?_
    have y0 := cellKp hb1 c0
    have y1 := cellKp hb1 c1
    go_wp2_with fail
    refine Calls.makes' (iField_c _ _ _) _ fun w2 hb2 => ?_
    have b2 := hb1.trans (hb2.mono hb1.size)
    go_wp2_with fail
    go_at_call 95
    refine (HIS.out _ b2).mono ?_
    rintro e w' ⟨rfl, rfl⟩
    go_wp2
    go_ret
    exact ⟨rfl, b2⟩
  · have hd : ((L : Int) != (M : Int)) = true := by rw [bne_iff_ne]; omega
    have hel : elemB p n L X = false := elemB_ne (fun e => hL (e.trans hM))
    rw [hel]
    clear hi h hsz hel hM
    clear z0 z1
    go_enter Try.func136, Try.ntmps136
    go_wp2_with fail
    refine Calls.makes' (HZ.out _) _ fun w1 hb1 => ?_
    go_wp2
    go_ret
    exact ⟨rfl, hb1⟩

set_option maxRecDepth 100000 in
set_option maxHeartbeats 4000000 in
theorem iCheckE_c (p : Int) (sv lv : Value) (n m : Nat) (s : Nat → Int) (L : Nat → Nat) (T : Nat → Nat → Int) (w : World) (h : Ints w sv n s) (hl : Tab w lv m L T) :
    Calls Try.prog 83 #[dbl p sv, lv] w fun e w' => Makes w w' e (.int .i64 (codeE (dblB p n s) p n m L T)) := by
  obtain ⟨ao, c, b, o, rfl, p2, p3, _⟩ := h.out
  obtain ⟨e0, e1, e2, e3⟩ := box0 w p ao n c 26
  have BX := Lib.hid (box0 w p ao n c 26)
  cases hok : dblB p n s
  · go_enter Try.func83, Try.ntmps83
    go_wp2_with fail
    refine Calls.makes' (iIsDbl_c _ _ _ _ _ (h.below e3)) _ fun w1 hb1 => ?_
    rw [hok]
    go_wp2
    go_ret
    exact ⟨rfl, e3.trans (hb1.mono e3.size)⟩
  · have hv := dv_of h hok
    go_enter Try.func83, Try.ntmps83
    go_wp2_with fail
    refine Calls.makes' (iIsDbl_c _ _ _ _ _ (h.below e3)) _ fun w1 hb1 => ?_
    rw [hok]
    obtain ⟨f0, f1, f2, f3⟩ := boxKeep hb1 BX.out
    go_wp2_with fail
    refine Calls.makes' (iContainsFuncRI_c 136 (fun _ _ => by simp [go_sem]) _ _ m L T (fun i => !elemB p n (L i) (T i)) _ (hl.below f3) (fun i hi W u hbW hu => iCk1_c p w.heap.size ao n c u (L i) (T i) W hu hv.p1 hv.p2 hv.le (cellKp hbW f0) (cellKp hbW f1))) _ fun w3 hb3 => ?_
    have b3 := f3.trans (hb3.mono f3.size)
    cases ha : anyB (fun i => !elemB p n (L i) (T i)) m
    · go_wp2
      go_ret
      exact ⟨ret_i64 (by unfold codeE; rw [ha]; rfl), b3⟩
    · go_wp2
      go_ret
      exact ⟨ret_i64 (by unfold codeE; rw [ha]; rfl), b3⟩

set_option maxRecDepth 100000 in
set_option maxHeartbeats 4000000 in
theorem sElem_c (p : Int) (sv : Value) (n : Nat) (s : Nat → Int) (v : Value) (L : Nat) (X : Nat → Int) (w : World) (hd : DV w sv p n s) (h : Ints w v L X) :
    Calls Try.prog 123 #[dbl p sv, v] w fun e w' => Makes w w' e (.bool (elemB p n L X)) := by
  obtain ⟨hints, h1, h2, hn, _⟩ := hd
  obtain ⟨ao, c, _, _, rfl, _⟩ := hints.out
  obtain ⟨xa, xc, b, o, rfl, p2, p3, p4, p5⟩ := h.out
  obtain ⟨e0, e1, e2, e3⟩ := box0 w p ao n c 26
  have P5 := Lib.hid p5
  obtain ⟨M, hM⟩ : ∃ M, 2 ^ n = M := ⟨_, rfl⟩
  have HZ : Hid (∀ W, Calls Try.prog 124 #[dbl p (.slice ao n c)] W fun e w' => Makes W w' e (.int .i64 ((M : Nat) : Int))) := fun W => hM ▸ sSize_c p ao n c W hn
  have HM := Lib.hid hM
  clear hints h p5 hM
  go_enter Try.func123, Try.ntmps123
  go_wp2
  go_loopg [5] L (fun g i wr => ∃ k : Nat, k ≤ L ∧ g = L - k ∧ i = .int .i64 k ∧ BoxD w p ao n c wr ∧ ∀ j, j < k → inB (X j) 0 (p - 1) = true)
  case atStart => exact ⟨0, Nat.zero_le _, rfl, rfl, ⟨e0, e1, e2, e3⟩, fun j hj => absurd hj (Nat.not_lt_zero _)⟩
  case round =>
    obtain ⟨k, hk, rfl, rfl, ⟨f0, f1, f2, f3⟩, hl⟩ := hrel
    have HL := Lib.hid hl; clear hl e0 e1 e2 e3
    have BX := Lib.hid (show BoxD w p ao n c wr from ⟨f0, f1, f2, f3⟩)
    by_cases hlt : k < L
    · obtain rfl := p4 (by omega)
      have f4 : wr.cell? ⟨b, o + k, none⟩ = some (.int .i64 (X k)) := by rw [f3.cell (p := ⟨b, o + k, none⟩) (lt_of_cell (P5.out k hlt))]; exact P5.out k hlt
      go_wp2
      go_quiet ((go_at_call 76; exact Calls.pure (sIn_c _ _ _ _)))
      go_wp2
      · have ht : (!inB (X k) 0 (p - 1)) = true := by assumption
        go_ret
        exact ⟨ret_bool (elemB_out (inPB_false hlt (by simpa using ht))).symm, Reads.below f3⟩
      · have ht : (!inB (X k) 0 (p - 1)) = false := by assumption
        go_roundg (L - (k + 1))
        case measure => omega
        case rel => exact ⟨k + 1, by omega, rfl, by go_num, boxKeep (W := wr) (below_drewN _ _) BX.out, fun j hj => by
          by_cases e : j = k
          · subst e; simpa using ht
          · exact HL.out j (by omega)⟩
    · obtain rfl : k = L := by omega
      go_wp2_with fail
      refine Calls.makes' (HZ.out _) _ fun w1 hb1 => ?_
      go_wp2
      go_ret
      exact ⟨ret_bool (by
        unfold elemB; rw [inPB_true HL.out, HM.out, Bool.and_true]
        by_cases e : k = M
        · subst e; simp
        · rw [decide_eq_false e]; exact beq_eq_false_iff_ne.2 (by omega)), f3.trans (hb1.mono f3.size)⟩

set_option maxRecDepth 100000 in
set_option maxHeartbeats 4000000 in
theorem sCode_c (p : Int) (sv lv : Value) (n m : Nat) (s : Nat → Int) (L : Nat → Nat) (T : Nat → Nat → Int) (w : World) (h : Ints w sv n s) (hl : Tab w lv m L T) :
    Calls Try.prog 92 #[dbl p sv, lv] w fun e w' => Makes w w' e (.int .i64 (codeE (dblB p n s) p n m L T)) := by
  obtain ⟨ao, c, b, o, rfl, p2, p3, _⟩ := h.out
  obtain ⟨e0, e1, e2, e3⟩ := box0 w p ao n c 26
  have BX := Lib.hid (box0 w p ao n c 26)
  cases hok : dblB p n s
  · go_enter Try.func92, Try.ntmps92
    go_wp2_with fail
    refine Calls.makes' (sIsDbl_c _ _ _ _ _ (h.below e3)) _ fun w1 hb1 => ?_
    rw [hok]
    go_wp2
    go_ret
    exact ⟨rfl, e3.trans (hb1.mono e3.size)⟩
  · have hv := Lib.hid (dv_of h hok)
    obtain ⟨la, lc, lb, lo, A, C, RB, RO, rfl, q2, q3, q4, q5, q6, q7, q8⟩ := hl.out
    have hr : ∀ i, i < m → Ints w (.slice (A i) (L i) (C i)) (L i) (T i) := fun i hi => Tab.rowAt q6 q7 q8 hi
    have HR := Lib.hid hr
    have P5 := Lib.hid q5
    clear hl q5 q6 q7 q8 hr
    go_enter Try.func92, Try.ntmps92
    go_wp2_with fail
    refine Calls.makes' (sIsDbl_c _ _ _ _ _ (h.below e3)) _ fun w1 hb1 => ?_
    rw [hok]
    obtain ⟨f0, f1, f2, f3⟩ := boxKeep hb1 BX.out
    clear h e0 e1 e2 e3 hb1
    go_wp2
    go_loopg [5] m (fun g i wr => ∃ k : Nat, k ≤ m ∧ g = m - k ∧ i = .int .i64 k ∧ BoxD w p ao n c wr ∧ ∀ j, j < k → elemB p n (L j) (T j) = true)
    case atStart => exact ⟨0, Nat.zero_le _, rfl, rfl, ⟨f0, f1, f2, f3⟩, fun j hj => absurd hj (Nat.not_lt_zero _)⟩
    case round =>
      obtain ⟨k, hk, rfl, rfl, ⟨f0, f1, f2, f3⟩, hl⟩ := hrel
      have HL := Lib.hid hl; clear hl
      have BXr := Lib.hid (show BoxD w p ao n c wr from ⟨f0, f1, f2, f3⟩)
      by_cases hlt : k < m
      · obtain rfl := q4 (by omega)
        have f4 : wr.cell? ⟨lb, lo + k, none⟩ = some (.slice (A k) (L k) (C k)) := by rw [f3.cell (p := ⟨lb, lo + k, none⟩) (lt_of_cell (P5.out k hlt))]; exact P5.out k hlt
        have hlb := lt_of_cell (P5.out k hlt)
        obtain ⟨q, hq⟩ : ∃ q, elemB p n (L k) (T k) = q := ⟨_, rfl⟩
        have hEl : ∀ W, Below w.heap.size w W → Calls Try.prog 123 #[dbl p (.slice ao n c), .slice (A k) (L k) (C k)] W fun e w' => Makes W w' e (.bool q) := fun W hb => hq ▸ sElem_c p _ n s _ (L k) (T k) W (hv.out.below hb) ((HR.out k hlt).below hb)
        have HE := Lib.hid hEl; clear hEl
        have i0 : (0 : Int) ≤ (k : Int) := by omega
        have i1 : (k : Int) < (m : Int) := by omega
        go_wp2
        go_region_held3 (fun W => (W.cell? ⟨w.heap.size, 0, none⟩ = some (.int .i64 p) ∧ W.cell? ⟨w.heap.size, 1, none⟩ = some (.slice ao n c) ∧ w.heap.size < W.heap.size ∧ Below w.heap.size w W) ∧ W.cell? ⟨lb, lo + k, none⟩ = some (.slice (A k) (L k) (C k)))
          ((first | assumption | exact boxKeepC hlb (drewB _) ⟨⟨f0, f1, f2, f3⟩, f4⟩ | exact boxKeepC hlb (by assumption) (by assumption)))
          ((first | (go_at_call 123; refine Calls.makes' (HE.out _ (boxBelowC (by assumption))) _ fun w2 hb2 => ?_)))
        have bx2 : BoxD w p ao n c w2 := And.left (b := w2.cell? ⟨lb, lo + k, none⟩ = some (.slice (A k) (L k) (C k))) (by assumption)
        cases q
        · go_wp2
          go_ret
          exact ⟨ret_i64 (by unfold codeE; rw [anyB_at hlt (by rw [hq]; rfl)]; rfl), bx2.2.2.2⟩
        · go_wp2
          go_roundg (m - (k + 1))
          case measure => omega
          case rel => exact ⟨k + 1, by omega, rfl, by go_num, bx2, fun j hj => by
            by_cases e : j = k
            · subst e; exact hq
            · exact HL.out j (by omega)⟩
      · obtain rfl : k = m := by omega
        go_wp2
        go_ret
        exact ⟨ret_i64 (by unfold codeE; rw [anyB_none fun j hj => by rw [HL.out j hj]; rfl]; rfl), f3⟩

end Go.Proofs.Ytnnacligfoonbaa

/-
  CyclicForm, in both programs. No condition beside sizes.
-/
set_option linter.unusedVariables false
set_option linter.unusedSimpArgs false
namespace Go.Proofs.Ytnnacligfoonbaa
open Go.RowKit

def pick3 {α : Type} (a b c : α) (i : Nat) : α := if i = 0 then a else if i = 1 then b else c
/-- a list of three elements, as it is handed to a variadic function -/
theorem list3 {w : World} {xv yv zv : Value} {nx ny nz : Nat} {X Y Z : Nat → Int} (t : TypeId) (hx : Ints w xv nx X) (hy : Ints w yv ny Y) (hz : Ints w zv nz Z) :
    Tab (w.alloc (.cells #[xv, yv, zv] t)) (.slice (some ⟨w.heap.size, 0, none⟩) 3 3) 3 (pick3 nx ny nz) (pick3 X Y Z) := by
  have hb : Below w.heap.size w (w.alloc (.cells #[xv, yv, zv] t)) := (Below.refl _ _).alloc (Nat.le_refl _) _
  obtain ⟨a1, c1, b1, o1, h11, h12, h13, h14, h15⟩ := (hx.below hb).out
  obtain ⟨a2, c2, b2, o2, h21, h22, h23, h24, h25⟩ := (hy.below hb).out
  obtain ⟨a3, c3, b3, o3, h31, h32, h33, h34, h35⟩ := (hz.below hb).out
  have h3 : ∀ i, i < 3 → i = 0 ∨ i = 1 ∨ i = 2 := fun i hi => by omega
  refine ⟨some ⟨w.heap.size, 0, none⟩, 3, w.heap.size, 0, pick3 a1 a2 a3, pick3 c1 c2 c3, pick3 b1 b2 b3, pick3 o1 o2 o3, rfl, Nat.le_refl _, by omega, fun _ => rfl, fun i hi => ?_, fun i hi => ?_, fun i hi => ?_, fun i j hi => ?_⟩
  · rcases h3 i hi with rfl | rfl | rfl
    · simp [pick3, h11]
    · simp [pick3, h21]
    · simp [pick3, h31]
  · rcases h3 i hi with rfl | rfl | rfl
    · exact ⟨h12, h13⟩
    · exact ⟨h22, h23⟩
    · exact ⟨h32, h33⟩
  · rcases h3 i hi with rfl | rfl | rfl
    · exact h14
    · exact h24
    · exact h34
  · rcases h3 i hi with rfl | rfl | rfl
    · exact h15 j
    · exact h25 j
    · exact h35 j

theorem codeE_zero {ok : Bool} {p : Int} {n m : Nat} {L : Nat → Nat} {T : Nat → Nat → Int} (h : codeE ok p n m L T = 0) : ok = true ∧ ∀ i, i < m → elemB p n (L i) (T i) = true := by
  unfold codeE at h
  cases ok
  · simp at h
  · cases ha : anyB (fun i => !elemB p n (L i) (T i)) m
    · refine ⟨rfl, fun i hi => ?_⟩
      cases he : elemB p n (L i) (T i)
      · have := anyB_at (p := fun i => !elemB p n (L i) (T i)) hi (by simp [he])
        rw [this] at ha; cases ha
      · rfl
    · rw [ha] at h; simp at h

set_option maxRecDepth 100000 in
set_option maxHeartbeats 1000000 in
theorem iTrace_c (p : Int) (sv xv : Value) (n : Nat) (s X : Nat → Int) (w : World) (hd : DV w sv p n s) (hx : El w xv p n X) :
    Calls Try.prog 98 #[dbl p sv, xv] w fun e w' => Makes w w' e (.int .i64 ((2 * X 0) % p)) := by
  obtain ⟨hints, hp1, hp2, hn, _⟩ := hd
  obtain ⟨ao, c, _, _, rfl, _⟩ := hints.out
  have hM : 0 < 2 ^ n := hx.pos
  have hX0 := hx.inp 0 hM
  obtain ⟨xa, xc, b, o, rfl, p2, p3, p4, p5⟩ := hx.ints.out
  obtain rfl := p4 hM
  have hc0 : w.cell? ⟨b, o, none⟩ = some (.int .i64 (X 0)) := p5 0 hM
  have hl0 := lt_of_cell hc0
  obtain ⟨e0, e1, e2, e3⟩ := box0 w p ao n c 26
  have hwr : IntKind.i64.wrap (2 * X 0) = 2 * X 0 := wrap_in _ (by omega)
  obtain ⟨M, hMM⟩ : ∃ M, 2 ^ n = M := ⟨_, rfl⟩
  rw [hMM] at hM p2 ⊢
  have i1 : (0 : Int) < (M : Int) := by omega
  clear hx p5 p4 hints hMM
  go_enter Try.func98, Try.ntmps98
  go_wp2
  go_region_held3 (fun W => (W.cell? ⟨w.heap.size, 0, none⟩ = some (.int .i64 p) ∧ W.cell? ⟨w.heap.size, 1, none⟩ = some (.slice ao n c) ∧ w.heap.size < W.heap.size ∧ Below w.heap.size w W) ∧ W.cell? ⟨b, o, none⟩ = some (.int .i64 (X 0)))
    ((first | assumption | exact boxStartC hl0 (boxDrew ⟨e0, e1, e2, e3⟩) hc0 | exact boxKeepC hl0 (by assumption) (by assumption)))
    ((first
      | (go_at_call 80; refine Calls.makes' (iField_c _ _ _) _ fun w1 hb1 => ?_)
      | (go_at_call 81; refine (iNum_c _ _ _ hp1 hp2 (by omega) (by omega)).mono ?_; rintro e w' ⟨rfl, rfl⟩)))
  have b2 : Below w.heap.size w w1 := boxBelowC (by assumption)
  go_wp2
  go_ret
  exact ⟨rfl, b2⟩

/-- the cyclic form -/
def cycV (p : Int) (n : Nat) (s X Y Z : Nat → Int) : Int := (2 * mulF p s n (mulF p s n X Y) Z 0) % p

set_option maxRecDepth 100000 in
set_option maxHeartbeats 400000 in
theorem iCyclic_c (p : Int) (sv : Value) (n : Nat) (s : Nat → Int) (xv : Value) (nx : Nat) (X : Nat → Int) (yv : Value) (ny : Nat) (Y : Nat → Int) (zv : Value) (nz : Nat) (Z : Nat → Int) (w : World)
    (h : Ints w sv n s) (hx : Ints w xv nx X) (hy : Ints w yv ny Y) (hz : Ints w zv nz Z) :
    Calls Try.prog 56 #[dbl p sv, xv, yv, zv] w fun e w' => Makes w w' e (rC (codeE (dblB p n s) p n 3 (pick3 nx ny nz) (pick3 X Y Z)) (cycV p n s X Y Z)) := by
  have h' := h
  obtain ⟨ao, c, _, _, rfl, _⟩ := h.out
  obtain ⟨xa, xc, _, _, rfl, _⟩ := hx.out
  obtain ⟨ya, yc, _, _, rfl, _⟩ := hy.out
  obtain ⟨za, zc, _, _, rfl, _⟩ := hz.out
  have BX := Lib.hid (box0 w p ao n c 26)
  have b0 := BX.out.2.2.2
  have BL : Hid (Below w.heap.size w ((w.alloc (.cells #[.int .i64 p, .slice ao n c] 26)).alloc (.cells #[.slice xa nx xc, .slice ya ny yc, .slice za nz zc] 24))) := b0.alloc b0.size _
  have ht := list3 24 (hx.below b0) (hy.below b0) (hz.below b0)
  rw [show (w.alloc (.cells #[.int .i64 p, .slice ao n c] 26)).heap.size = w.heap.size + 1 by simp] at ht
  have HT := Lib.hid ht
  clear ht
  have bA : Below (w.alloc (.cells #[.int .i64 p, .slice ao n c] 26)).heap.size (w.alloc (.cells #[.int .i64 p, .slice ao n c] 26)) ((w.alloc (.cells #[.int .i64 p, .slice ao n c] 26)).alloc (.cells #[.slice xa nx xc, .slice ya ny yc, .slice za nz zc] 24)) := (Below.refl _ _).alloc (Nat.le_refl _) _
  have BXA := Lib.hid (boxKeep bA BX.out)
  obtain ⟨e0, e1, e2, e3⟩ := BX.out
  obtain ⟨cc, hcc⟩ : ∃ cc, codeE (dblB p n s) p n 3 (pick3 nx ny nz) (pick3 X Y Z) = cc := ⟨_, rfl⟩
  by_cases h0 : cc = 0
  · obtain ⟨hok, hel⟩ := codeE_zero (hcc.trans h0)
    have hv := dv_of h' hok
    obtain ⟨l0, x0⟩ := elemB_el hx (hel 0 (by omega))
    obtain ⟨l1, y0⟩ := elemB_el hy (hel 1 (by omega))
    obtain ⟨l2, z0⟩ := elemB_el hz (hel 2 (by omega))
    have HV : Hid (∀ W, Below w.heap.size w W → DV W (.slice ao n c) p n s) := fun W hb => hv.below hb
    have HX : Hid (∀ W, Below w.heap.size w W → El W (.slice xa nx xc) p n X) := fun W hb => x0.below hb
    have HY : Hid (∀ W, Below w.heap.size w W → El W (.slice ya ny yc) p n Y) := fun W hb => y0.below hb
    have HZ : Hid (∀ W, Below w.heap.size w W → El W (.slice za nz zc) p n Z) := fun W hb => z0.below hb
    have HC := Lib.hid hcc
    have H' := Lib.hid h'
    clear h hx hy hz hv x0 y0 z0 hel bA h' l0 l1 l2 hok
    subst h0
    go_enter Try.func56, Try.ntmps56
    go_wp2_with fail
    go_at_call 83
    refine Calls.makes' (iCheckE_c p _ _ n 3 s _ _ _ (H'.out.below BL.out) HT.out) _ fun w1 hb1 => ?_
    rw [HC.out]
    obtain ⟨f0, f1, f2, f3⟩ := boxKeep hb1 BXA.out
    go_wp2
    go_region_held3 (fun W => W.cell? ⟨w.heap.size, 0, none⟩ = some (.int .i64 p) ∧ W.cell? ⟨w.heap.size, 1, none⟩ = some (.slice ao n c) ∧ w.heap.size < W.heap.size ∧ Below w.heap.size w W)
      ((first | assumption | exact boxDrew ⟨f0, f1, f2, f3⟩ | exact boxKeep (by assumption) (by assumption)))
      ((first
        | (go_at_call 91; have hx := hE1; refine (iTimes_c p _ _ _ n s _ Z _ (HV.out _ (boxBelow (by assumption))) hE1 (HZ.out _ (boxBelow (by assumption)))).mono ?_; rintro e w3 ⟨g3, c3, rfl, hg3, hb3, hO3, hE3⟩)
        | (go_at_call 91; refine (iTimes_c p _ _ _ n s X Y _ (HV.out _ (boxBelow (by assumption))) (HX.out _ (boxBelow (by assumption))) (HY.out _ (boxBelow (by assumption)))).mono ?_; rintro e w2 ⟨g2, c2, rfl, hg2, hb2, hO2, hE1⟩)
        | (go_at_call 98; refine Calls.makes' (iTrace_c p _ _ n s _ _ (HV.out _ (boxBelow (by assumption))) hE3) _ fun w4 hb4 => ?_)))
    have b4 : Below w.heap.size w w4 := boxBelow (by assumption)
    go_wp2
    go_ret2
    exact ⟨by rw [HC.out]; rfl, b4⟩
  · have HC := Lib.hid hcc
    have H' := Lib.hid h'
    have hne : (cc != 0) = true := by rw [bne_iff_ne]; exact h0
    clear h hx hy hz bA h'
    go_enter Try.func56, Try.ntmps56
    go_wp2_with fail
    go_at_call 83
    refine Calls.makes' (iCheckE_c p _ _ n 3 s _ _ _ (H'.out.below BL.out) HT.out) _ fun w1 hb1 => ?_
    rw [HC.out]
    go_wp2
    go_ret2
    exact ⟨by rw [HC.out]; unfold rC; rw [if_neg h0]; rfl, BL.out.trans (hb1.mono BL.out.size)⟩

end Go.Proofs.Ytnnacligfoonbaa
