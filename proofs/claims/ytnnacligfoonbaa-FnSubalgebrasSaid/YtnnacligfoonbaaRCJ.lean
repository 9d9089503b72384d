/-
  IsAssociativeOn in both programs. No condition.
-/
import Derived.Test.YtnnacligfoonbaaRJ
import Derived.Test.YtnnacligfoonbaaQAJ
import Derived.Test.YtnnacligfoonbaaD21
import Derived.Test.YtnnacligfoonbaaD31
set_option linter.unusedVariables false
set_option linter.unusedSimpArgs false
namespace Go.Proofs.Ytnnacligfoonbaa
open Go.RowKit

/-- is a list of n numbers nought? -/
def zB (n : Nat) (X : Nat → Int) : Bool := decide (ldd n X = n)
theorem zB_iff {p : Int} {n : Nat} {X : Nat → Int} (h : InP p n X) : zB n X = true ↔ CgV p n X fun _ => 0 := by
  unfold zB
  rw [decide_eq_true_eq]
  constructor
  · exact fun e j hj => Cg.of_eq (ldd_before (by rw [e]; exact hj))
  · intro h2
    have hl := ldd_le n X
    by_cases e : ldd n X = n
    · exact e
    · have hlt : ldd n X < n := by omega
      exact absurd ((h2 _ hlt).eq0 (h _ hlt)) (ldd_is hlt)
/-- are all associators of rows nought? -/
def asB (p : Int) (s : Nat → Int) (n m : Nat) (T : Nat → Nat → Int) : Bool := all3 m fun x y z => zB (2 ^ n) (asF p s n (T x) (T y) (T z))
theorem asB_iff {p : Int} (hp : 0 < p) {s : Nat → Int} {n m : Nat} {T : Nat → Nat → Int} : asB p s n m T = true ↔ ∀ u v w, RowS m T u → RowS m T v → RowS m T w → CgV p (2 ^ n) (asF p s n u v w) fun _ => 0 := by
  constructor
  · rintro h u v w ⟨x, hx, rfl⟩ ⟨y, hy, rfl⟩ ⟨z, hz, rfl⟩
    have h2 := (cnt3_full m fun x y z => zB (2 ^ n) (asF p s n (T x) (T y) (T z))).1 (of_decide_eq_true h) x y z hx hy hz
    exact (zB_iff (asF_in hp s n _ _ _ _)).1 h2
  · exact fun h => all3_true fun x y z hx hy hz => (zB_iff (asF_in hp s n _ _ _ _)).2 (h _ _ _ ⟨x, hx, rfl⟩ ⟨y, hy, rfl⟩ ⟨z, hz, rfl⟩)
/-- the reduced basis tells the same -/
theorem asB_basis {p : Int} (hp : primeB p = true) {s : Nat → Int} {n m : Nat} {T : Nat → Nat → Int} (h : RowsIn p m (2 ^ n) T) : asB p s n (bSt p m T (2 ^ n)).2 (bSt p m T (2 ^ n)).1 = asB p s n m T := by
  have hp0 : 0 < p := by have := primeB_bd hp; omega
  have hb := bSt_of hp h
  have h1 := asB_iff (p := p) hp0 (s := s) (n := n) (m := m) (T := T)
  have h2 := asB_iff (p := p) hp0 (s := s) (n := n) (m := (bSt p m T (2 ^ n)).2) (T := (bSt p m T (2 ^ n)).1)
  have key : asB p s n (bSt p m T (2 ^ n)).2 (bSt p m T (2 ^ n)).1 = true ↔ asB p s n m T = true := by
    rw [h1, h2]
    constructor
    · exact fun h u v w hu hv hw => as_span h (hb.of u hu) (hb.of v hv) (hb.of w hw)
    · rintro h u v w ⟨x, hx, rfl⟩ ⟨y, hy, rfl⟩ ⟨z, hz, rfl⟩
      exact as_span h (hb.to x hx) (hb.to y hy) (hb.to z hz)
  cases e1 : asB p s n (bSt p m T (2 ^ n)).2 (bSt p m T (2 ^ n)).1 <;> cases e2 : asB p s n m T <;> simp_all

set_option maxRecDepth 100000 in
theorem iZero_c (v : Value) (n : Nat) (X : Nat → Int) (w : World) (h : Ints w v n X) (hn : n ≤ 1048576) :
    Calls Try.prog 122 #[v] w fun e w' => e = .returned (.bool (zB n X)) ∧ w = w' := by
  have HL := Lib.hid (iLead_c v n X w h hn)
  obtain ⟨ao, c, b, o, rfl, qq⟩ := h.out
  obtain ⟨q, hq⟩ : ∃ q, ldd n X = q := ⟨_, rfl⟩
  have hz : Hid (zB n X = decide ((q : Int) = (n : Int))) := by show decide (ldd n X = n) = _; rw [hq]; congr 1; exact propext (by omega)
  rw [hq] at HL
  rw [hz.out]
  clear h hq qq
  go_enter Try.func122, Try.ntmps122
  go_wp2_with fail
  refine HL.out.mono ?_
  rintro e w' ⟨rfl, rfl⟩
  go_wp2
  go_ret
  exact ⟨by first | rfl | (congr 2; simp; done) | simp, rfl⟩

end Go.Proofs.Ytnnacligfoonbaa

/-
  IsAssociativeOn: the walks of both programs. No condition.
-/
set_option linter.unusedVariables false
set_option linter.unusedSimpArgs false
namespace Go.Proofs.Ytnnacligfoonbaa
open Go.RowKit

/-- rows that are elements, as a table of the field -/
theorem elRows {w : World} {v : Value} {p : Int} {n m : Nat} {L : Nat → Nat} {T : Nat → Nat → Int} (h : Tab w v m L T) (hv : ∀ i, i < m → elemB p n (L i) (T i) = true) : Tab w v m (fun _ => 2 ^ n) T ∧ RowsIn p m (2 ^ n) T := by
  have h2 : ∀ i, i < m → L i = 2 ^ n ∧ InP p (2 ^ n) (T i) := fun i hi => by
    have hh := hv i hi
    obtain ⟨ao, c, b, o, A, C, RB, RO, h1, _, _, _, _, h6, h7, h8⟩ := h.out
    have := elemB_el (Tab.rowAt h6 h7 h8 hi) hh
    exact ⟨this.1, this.2.inp⟩
  obtain ⟨ao, c, b, o, A, C, RB, RO, h1, h2', h3, h4, h5, h6, h7, h8⟩ := h.out
  exact ⟨⟨ao, c, b, o, A, C, RB, RO, h1, h2', h3, h4, fun i hi => by rw [h5 i hi, (h2 i hi).1], fun i hi => by rw [← (h2 i hi).1]; exact h6 i hi, fun i hi hp => h7 i hi (by rw [(h2 i hi).1]; exact hp), fun i j hi hj => h8 i j hi (by rw [(h2 i hi).1]; exact hj)⟩, fun i hi => (h2 i hi).2⟩
/-- what IsAssociativeOn answers -/
def aonB (cc p : Int) (s : Nat → Int) (n m : Nat) (T : Nat → Nat → Int) : Bool := if cc = 0 then asB p s n m T else false

set_option maxRecDepth 100000 in
set_option maxHeartbeats 4000000 in
theorem iAssocOn_c (p : Int) (sv lv : Value) (n m : Nat) (s : Nat → Int) (L : Nat → Nat) (T : Nat → Nat → Int) (w : World) (h : Ints w sv n s) (hl : Tab w lv m L T) (hm : m ≤ 1048576) :
    Calls Try.prog 63 #[dbl p sv, lv] w fun e w' => Makes w w' e (.tuple #[.bool (aonB (codeE (dblB p n s) p n m L T) p s n m T), .int .i64 (codeE (dblB p n s) p n m L T)]) := by
  have h' := Lib.hid h
  have hl' := Lib.hid hl
  obtain ⟨ao, c, b, o, rfl, p2, p3, qx⟩ := h.out
  obtain ⟨la, lc, lb, lo, A, C, RB, RO, rfl, q2, q3, qy⟩ := hl.out
  clear qx qy
  obtain ⟨e0, e1, e2, e3⟩ := box0 w p ao n c 26
  have BX := Lib.hid (box0 w p ao n c 26)
  obtain ⟨cc, hcc⟩ : ∃ cc, codeE (dblB p n s) p n m L T = cc := ⟨_, rfl⟩
  have HC : Hid (Calls Try.prog 83 #[dbl p (.slice ao n c), .slice la m lc] (w.alloc (.cells #[.int .i64 p, .slice ao n c] 26)) fun e w' => Makes (w.alloc (.cells #[.int .i64 p, .slice ao n c] 26)) w' e (.int .i64 cc)) := hcc ▸ iCheckE_c p _ _ n m s L T _ (h.below e3) (hl.below e3)
  rw [hcc]
  by_cases h0 : cc = 0
  · obtain ⟨hok, hel⟩ := codeE_zero (hcc.trans h0)
    have hdb := dblB_ok hok
    have hpr := hdb.prime
    have hbd := primeB_bd hpr
    have hn4 := hdb.le
    have hv := dv_of h hok
    have HV : Hid (∀ W, Below w.heap.size w W → DV W (.slice ao n c) p n s) := fun W hb => hv.below hb
    have hM16 := pow_le hn4
    have hM0 : 0 < 2 ^ n := Nat.pos_of_ne_zero (by simp)
    have hrows := elRows hl hel
    have hBas : ∀ W, Below w.heap.size w W → Calls Try.prog 115 #[.int .i64 p, .slice la m lc] W fun e w' => CopyT W w' e (bSt p m T (2 ^ n)).2 (fun _ => 2 ^ n) (bSt p m T (2 ^ n)).1 := fun W hb => iBasis_c p _ m (2 ^ n) T W (hrows.1.below hb) ⟨by omega, by omega⟩ hm hbd hrows.2
    have hin := (bSt_of hpr hrows.2).inp
    have hle := (bSt_of hpr hrows.2).le
    have hD : aonB cc p s n m T = asB p s n (bSt p m T (2 ^ n)).2 (bSt p m T (2 ^ n)).1 := by unfold aonB; rw [if_pos h0, asB_basis hpr hrows.2]
    rw [hD]
    generalize bSt p m T (2 ^ n) = Q at hBas hin hle
    obtain ⟨S, d⟩ := Q
    have hin : RowsIn p d (2 ^ n) S := hin
    have hle : d ≤ 2 ^ n := hle
    show Calls _ _ _ _ fun e w' => Makes w w' e (.tuple #[.bool (asB p s n d S), .int .i64 cc])
    have hAs : ∀ W x y z vx vy vz, x < d → y < d → z < d → Below w.heap.size w W → Ints W vx (2 ^ n) (S x) → Ints W vy (2 ^ n) (S y) → Ints W vz (2 ^ n) (S z) → Calls Try.prog 113 #[dbl p (.slice ao n c), vx, vy, vz] W fun e w' => ∃ g cg, e = .returned (.slice (some ⟨g, 0, none⟩) (2 ^ n) cg) ∧ Below W.heap.size W w' ∧ Ints w' (.slice (some ⟨g, 0, none⟩) (2 ^ n) cg) (2 ^ n) (asF p s n (S x) (S y) (S z)) := fun W x y z vx vy vz hx hy hz hb h1 h2 h3 =>
      (iAssoc_c p _ vx vy vz n s (S x) (S y) (S z) W (HV.out W hb) ⟨h1, hin x hx⟩ ⟨h2, hin y hy⟩ ⟨h3, hin z hz⟩).mono fun e w' h => by
        obtain ⟨g, cg, q1, q2, q3, q4, q5, q6⟩ := h.out
        exact ⟨g, cg, q1, q3, q5⟩
    have hAll : ∀ b : Bool, (∀ x y z, x < d → y < d → z < d → zB (2 ^ n) (asF p s n (S x) (S y) (S z)) = true) → asB p s n d S = true := fun _ h => all3_true h
    have hNot : ∀ x y z, x < d → y < d → z < d → zB (2 ^ n) (asF p s n (S x) (S y) (S z)) = false → asB p s n d S = false := fun x y z hx hy hz h => all3_false hx hy hz h
    obtain ⟨F, hF⟩ : ∃ F : Nat → Nat → Nat → Nat → Int, (fun x y z => asF p s n (S x) (S y) (S z)) = F := ⟨_, rfl⟩
    have hFe : ∀ x y z, asF p s n (S x) (S y) (S z) = F x y z := fun x y z => by rw [← hF]
    obtain ⟨ans, hans⟩ : ∃ ans, asB p s n d S = ans := ⟨_, rfl⟩
    obtain ⟨M, hM⟩ : ∃ M, 2 ^ n = M := ⟨_, rfl⟩
    rw [hans]
    simp only [hFe, hM, hans] at hAs hAll hNot
    rw [hM] at hBas hM16 hM0 hle
    have HAs := Lib.hid hAs
    have HAll := Lib.hid (hAll true)
    have HNot := Lib.hid hNot
    have HBas := Lib.hid hBas
    subst h0
    clear h hl hcc hok hel hdb hv hrows hD hAs hAll hNot hF hFe hans hM hBas hin
    go_enter Try.func63, Try.ntmps63
    go_wp2_with fail
    refine Calls.makes' HC.out _ fun w1 hb1 => ?_
    obtain ⟨f0, f1, f2, f3⟩ := boxKeep hb1 BX.out
    go_wp2_with fail
    refine Calls.makes' (iField_c _ _ _) _ fun w2 hb2 => ?_
    have bx2 := Lib.hid (boxKeep hb2 ⟨f0, f1, f2, f3⟩)
    have hb3 := f3.trans (hb2.mono f3.size)
    go_wp2_with fail
    go_at_call 115
    refine (HBas.out _ hb3).mono ?_
    rintro e w4 ⟨g0, cap0, rfl, hb4, hO4⟩
    have BX4 := Lib.hid (boxKeep hb4 bx2.out)
    have hO4 := Lib.hid (hO4.mono (Nat.le_refl w2.heap.size))
    clear e0 e1 e2 e3 f0 f1 f2 f3 hb1 hb2 hb3 hb4 bx2
    go_wp2_with fail
    go_loopg [26] d (fun g i wr => ∃ x : Nat, x ≤ d ∧ g = d - x ∧ i = .int .i64 x ∧ BoxD w p ao n c wr ∧ Hid (OTab wr w2.heap.size g0 cap0 d (fun _ => M) S) ∧ Hid (∀ a y z, a < x → y < d → z < d → zB M (F a y z) = true))
    case atStart => exact ⟨0, Nat.zero_le _, rfl, rfl, BX4.out, hO4.out, fun a y z ha => absurd ha (Nat.not_lt_zero _)⟩
    case round =>
      obtain ⟨x, hx, rfl, rfl, ⟨f0, f1, f2, f3⟩, hO, hX⟩ := hrel
      obtain ⟨wo, rfl⟩ : ∃ wo, wo = wr := ⟨_, rfl⟩
      have BXo := Lib.hid (show BoxD w p ao n c wo from ⟨f0, f1, f2, f3⟩)
      clear BX4 hO4
      by_cases hxd : x < d
      · obtain ⟨rx, cx, hcx, hrx⟩ := hO.out.bound.row hxd
        have HRX := Lib.hid hrx
        have hgl := hO.out.lt
        clear hrx
        go_wp2_with fail
        go_loopg [32] d (fun g i wq => ∃ y : Nat, y ≤ d ∧ g = d - y ∧ i = .int .i64 y ∧ BoxD w p ao n c wq ∧ Hid (Below wo.heap.size wo wq) ∧ Hid (∀ b z, b < y → z < d → zB M (F x b z) = true))
        case atStart => exact ⟨0, Nat.zero_le _, rfl, rfl, BXo.out, Below.refl _ _, fun b z hb => absurd hb (Nat.not_lt_zero _)⟩
        case round =>
          obtain ⟨y, hy, rfl, rfl, ⟨h0, h1, h2, h3⟩, hbq, hY⟩ := hrel
          obtain ⟨wp, rfl⟩ : ∃ wp, wp = wr := ⟨_, rfl⟩
          have BXp := Lib.hid (show BoxD w p ao n c wp from ⟨h0, h1, h2, h3⟩)
          by_cases hyd : y < d
          · have hOq := Lib.hid (hO.out.kept hbq.out)
            obtain ⟨ry, cy, hcy, hry⟩ := hOq.out.bound.row hyd
            have HRY := Lib.hid hry
            clear hry
            go_wp2_with fail
            go_loopg [38] d (fun g i wq => ∃ z : Nat, z ≤ d ∧ g = d - z ∧ i = .int .i64 z ∧ BoxD w p ao n c wq ∧ Hid (Below wp.heap.size wp wq) ∧ Hid (∀ b, b < z → zB M (F x y b) = true))
            case atStart => exact ⟨0, Nat.zero_le _, rfl, rfl, BXp.out, Below.refl _ _, fun b hb => absurd hb (Nat.not_lt_zero _)⟩
            case round =>
              obtain ⟨z, hz, rfl, rfl, ⟨j0, j1, j2, j3⟩, hbr, hZ⟩ := hrel
              have BXr := Lib.hid (show BoxD w p ao n c wr from ⟨j0, j1, j2, j3⟩)
              by_cases hzd : z < d
              · have hOr := Lib.hid (hOq.out.kept hbr.out)
                obtain ⟨rz, cz, hcz, hrz⟩ := hOr.out.bound.row hzd
                have hbo : Below wo.heap.size wo wr := hbq.out.trans (hbr.out.mono hbq.out.size)
                have HA : Hid (Calls Try.prog 113 #[dbl p (.slice ao n c), .slice (some ⟨rx, 0, none⟩) M cx, .slice (some ⟨ry, 0, none⟩) M cy, .slice (some ⟨rz, 0, none⟩) M cz] wr fun e w' => ∃ g cg, e = .returned (.slice (some ⟨g, 0, none⟩) M cg) ∧ Below wr.heap.size wr w' ∧ Ints w' (.slice (some ⟨g, 0, none⟩) M cg) M (F x y z)) :=
                  HAs.out wr x y z _ _ _ hxd hyd hzd j3 (HRX.out.below hbo) (HRY.out.below hbr.out) hrz
                obtain ⟨bz, hbz⟩ : ∃ bz, zB M (F x y z) = bz := ⟨_, rfl⟩
                have HBZ := Lib.hid hbz
                clear hrz hbo hbz
                go_wp2_with fail
                go_at_call 113
                refine HA.out.mono ?_
                rintro e w5 ⟨g5, c5, rfl, hb5, hI5⟩
                have HZc : Hid (Calls Try.prog 122 #[.slice (some ⟨g5, 0, none⟩) M c5] w5 fun e w' => e = .returned (.bool bz) ∧ w5 = w') := by
                  have h := iZero_c _ M (F x y z) w5 hI5 (by omega)
                  rw [HBZ.out] at h
                  exact h
                have BX5 := Lib.hid (boxKeep hb5 BXr.out)
                have hb6 := Lib.hid (hbr.out.trans (hb5.mono hbr.out.size))
                clear hI5 hb5
                go_wp2_with fail
                go_at_call 122
                refine HZc.out.mono ?_
                rintro e w6 ⟨rfl, rfl⟩
                cases bz
                · go_wp2
                  go_ret2
                  exact ⟨by rw [HNot.out x y z hxd hyd hzd HBZ.out]; rfl, BX5.out.2.2.2⟩
                · go_wp2
                  go_roundg (d - (z + 1))
                  case measure => omega
                  case rel => exact ⟨z + 1, by omega, rfl, by go_num, BX5.out, hb6.out, fun b hb => by
                    by_cases e : b = z
                    · rw [e]; exact HBZ.out
                    · exact hZ.out b (by omega)⟩
              · obtain rfl : z = d := by omega
                go_wp2
                go_roundg (z - (y + 1))
                case measure => omega
                case rel => exact ⟨y + 1, by omega, rfl, by go_num, BXr.out, hbq.out.trans (hbr.out.mono hbq.out.size), fun b k hb hk => by
                  by_cases e : b = y
                  · rw [e]; exact hZ.out k hk
                  · exact hY.out b k (by omega) hk⟩
          · obtain rfl : y = d := by omega
            go_wp2
            go_roundg (y - (x + 1))
            case measure => omega
            case rel => exact ⟨x + 1, by omega, rfl, by go_num, BXp.out, hO.out.kept hbq.out, fun a i k ha hi hk => by
              by_cases e : a = x
              · rw [e]; exact hY.out i k hi hk
              · exact hX.out a i k (by omega) hi hk⟩
      · obtain rfl : x = d := by omega
        go_wp2
        go_ret2
        exact ⟨by rw [HAll.out hX.out]; rfl, f3⟩
  · have hne : (cc != 0) = true := by rw [bne_iff_ne]; exact h0
    have hD : aonB cc p s n m T = false := by unfold aonB; rw [if_neg h0]
    rw [hD]
    go_enter Try.func63, Try.ntmps63
    go_wp2_with fail
    refine Calls.makes' HC.out _ fun w1 hb1 => ?_
    go_wp2
    go_ret2
    exact ⟨rfl, e3.trans (hb1.mono e3.size)⟩

end Go.Proofs.Ytnnacligfoonbaa

/-
  IsAssociativeOn: the walk of the reference. No condition.
-/
set_option linter.unusedVariables false
set_option linter.unusedSimpArgs false
namespace Go.Proofs.Ytnnacligfoonbaa
open Go.RowKit

theorem keepR3 {w W W' : World} {p : Int} {ao : Option Addr} {n c : Nat} {a1 a2 a3 : Addr} {v1 v2 v3 : Value} (h1 : a1.block < w.heap.size) (h2 : a2.block < w.heap.size) (h3 : a3.block < w.heap.size) (hb : Below W.heap.size W W')
    (h : BoxD w p ao n c W ∧ W.cell? a1 = some v1 ∧ W.cell? a2 = some v2 ∧ W.cell? a3 = some v3) : BoxD w p ao n c W' ∧ W'.cell? a1 = some v1 ∧ W'.cell? a2 = some v2 ∧ W'.cell? a3 = some v3 := by
  have hs := h.1.2.2.2.size
  exact ⟨boxKeep hb h.1, by rw [hb.cell (p := a1) (by omega)]; exact h.2.1, by rw [hb.cell (p := a2) (by omega)]; exact h.2.2.1, by rw [hb.cell (p := a3) (by omega)]; exact h.2.2.2⟩
theorem boxR3 {w W : World} {p : Int} {ao : Option Addr} {n c : Nat} {a1 a2 a3 : Addr} {v1 v2 v3 : Value} (h : BoxD w p ao n c W ∧ W.cell? a1 = some v1 ∧ W.cell? a2 = some v2 ∧ W.cell? a3 = some v3) : BoxD w p ao n c W := h.1

end Go.Proofs.Ytnnacligfoonbaa
