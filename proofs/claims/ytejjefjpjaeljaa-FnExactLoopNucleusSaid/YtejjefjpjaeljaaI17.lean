/-
  What the program's functions on loops compute: counts, tests, inverse, order. No condition beside sizes.
-/
import Derived.Test.YtejjefjpjaeljaaI16
set_option linter.unusedVariables false
set_option linter.unusedSimpArgs false
namespace Go.Proofs.Ytejjefjpjaeljaa
open Go.RowKit

set_option maxHeartbeats 800000 in
theorem iCountComm_c (v : Value) (G : Nat) (L : Nat → Nat) (T : Nat → Nat → Int) (w : World) (h : Tab w v G L T) :
    Calls Try.prog 18 #[v] w fun e w' => Makes w w' e (rI (loopB G L T) (cnt2 G (comB (NT G T)) G)) := by
  cases hl : loopB G L T
  · go_enter Try.func18, Try.ntmps18
    go_wp2_with fail
    refine Calls.makes' (iCheck_c _ _ _ _ _ _ (fun _ => 0) _ h (Ints.nil _ _)) _ fun w1 hb => ?_
    rw [codeL_nil, hl]
    go_wp2
    go_ret2
    exact ⟨rfl, hb⟩
  · have hlt := h.lt (loopB_ok hl)
    obtain ⟨N, hN⟩ : ∃ N, NT G T = N := ⟨_, rfl⟩
    rw [hN] at hlt ⊢
    clear hN
    obtain ⟨c, b, o, C, RB, RO, rfl, p2, p3, p4, p5, p6, p7, p8, p9⟩ := hlt.out
    clear p5 hlt
    have P4 := Lib.hid p4
    have P6 := Lib.hid p6
    clear p4 p6
    go_enter Try.func18, Try.ntmps18
    go_wp2_with fail
    refine Calls.makes' (iCheck_c _ _ _ _ _ _ (fun _ => 0) _ h (Ints.nil _ _)) _ fun w1 hb => ?_
    rw [codeL_nil, hl]
    have p4 : ∀ i, i < G → w1.cell? ⟨b, o + i, none⟩ = some (.slice (some ⟨RB i, RO i, none⟩) G (C i)) := fun i hi => by rw [hb.cell (p := ⟨b, o + i, none⟩) (lt_of_cell (P4.out i hi))]; exact P4.out i hi
    have p6 : ∀ i j, i < G → j < G → w1.cell? ⟨RB i, RO i + j, none⟩ = some (.int .i64 (N i j)) := fun i j hi hj => by rw [hb.cell (p := ⟨RB i, RO i + j, none⟩) (lt_of_cell (P6.out i j hi hj))]; exact P6.out i j hi hj
    go_wp2
    go_loopg [5, 15] G (fun g m i wr => ∃ x : Nat, x ≤ G ∧ g = G - x ∧ i = .int .i64 x ∧ m = .int .i64 (cnt2 G (comB N) x) ∧ ∃ q, wr = w1.drewN q)
    case atStart => exact ⟨0, Nat.zero_le _, rfl, rfl, rfl, 0, rfl⟩
    case round =>
      obtain ⟨x, hx, rfl, rfl, rfl, q, rfl⟩ := hrel
      have c2 := cnt2_le G (comB N) x
      have c2' : x * G ≤ 128 * 128 := Nat.mul_le_mul (by omega) p8
      by_cases hlt : x < G
      · go_wp2
        go_loopg [5, 20] G (fun g m i wr => ∃ y : Nat, y ≤ G ∧ g = G - y ∧ i = .int .i64 y ∧ m = .int .i64 ((cnt2 G (comB N) x + cnt (comB N x) y : Nat) : Int) ∧ ∃ q, wr = w1.drewN q)
        case atStart => exact ⟨0, Nat.zero_le _, rfl, rfl, rfl, q, rfl⟩
        case round =>
          obtain ⟨y, hy, rfl, rfl, rfl, q2, rfl⟩ := hrel
          have c1 := cnt_le (comB N x) y
          by_cases hlt2 : y < G
          · have hs : Hid (cnt (comB N x) (y + 1) = cnt (comB N x) y + if comB N x y then 1 else 0) := rfl
            go_wp2
            go_quiet (fail)
            cases hc : comB N x y
            · have hc' : ((N x y : Int) == (N y x : Int)) = false := hc
              go_wp2
              go_roundg (G - (y + 1))
              case measure => omega
              case rel => exact ⟨y + 1, by omega, rfl, by go_num, by rw [hs.out, hc]; simp, by first | exact ⟨_, rfl⟩ | exact ⟨_, World.drewN_drewN _ _ _⟩⟩
            · have hc' : ((N x y : Int) == (N y x : Int)) = true := hc
              go_wp2
              go_roundg (G - (y + 1))
              case measure => omega
              case rel => exact ⟨y + 1, by omega, rfl, by go_num, by rw [hs.out, hc]; simp; omega, by first | exact ⟨_, rfl⟩ | exact ⟨_, World.drewN_drewN _ _ _⟩⟩
          · obtain rfl : y = G := by omega
            have hs : Hid (cnt2 y (comB N) (x + 1) = cnt2 y (comB N) x + cnt (comB N x) y) := rfl
            go_wp2
            go_roundg (y - (x + 1))
            case measure => omega
            case rel => exact ⟨x + 1, by omega, rfl, by go_num, by rw [hs.out], by first | exact ⟨_, rfl⟩ | exact ⟨_, World.drewN_drewN _ _ _⟩⟩
      · obtain rfl : x = G := by omega
        go_wp2
        go_ret2
        exact ⟨rfl, Reads.below hb⟩

theorem Tab.shape {w : World} {v : Value} {G : Nat} {L : Nat → Nat} {T : Nat → Nat → Int} (h : Tab w v G L T) : ∃ ao c, v = .slice ao G c := by
  obtain ⟨ao, c, b, o, A, C, RB, RO, h1, _⟩ := h.out
  exact ⟨ao, c, h1⟩

theorem LT.cap {w : World} {v : Value} {G : Nat} {N : Nat → Nat → Nat} (h : LT w v G N) : ∃ b o c, v = .slice (some ⟨b, o, none⟩) G c ∧ b < w.heap.size ∧ G ≤ 128 := by
  obtain ⟨c, b, o, C, RB, RO, p1, p2, p3, p4, p5, p6, p7, p8, p9⟩ := h.out
  exact ⟨b, o, c, p1, lt_of_cell (p4 0 (by omega)), p8⟩

set_option maxHeartbeats 800000 in
theorem iIsAss_c (v : Value) (G : Nat) (L : Nat → Nat) (T : Nat → Nat → Int) (w : World) (h : Tab w v G L T) :
    Calls Try.prog 26 #[v] w fun e w' => Makes w w' e (rB (loopB G L T) (all3 G (assB (NT G T)))) := by
  obtain ⟨vo, vc, rfl⟩ := h.shape
  have hba : Below w.heap.size w (w.alloc (.cells #[.slice vo G vc] 22)) := (Below.refl _ _).alloc (Nat.le_refl _) _
  cases hl : loopB G L T
  · go_enter Try.func26, Try.ntmps26
    go_wp2_with fail
    refine Calls.makes' (iCheck_c _ _ _ _ _ _ (fun _ => 0) _ (h.below hba) (Ints.nil _ _)) _ fun w1 hb => ?_
    rw [codeL_nil, hl]
    go_wp2
    go_ret2
    exact ⟨rfl, hba.trans (hb.mono (by simp))⟩
  · have hlt := h.lt (loopB_ok hl)
    obtain ⟨b, o, c, ev, hbl, hG⟩ := hlt.cap
    injection ev with ev1 _ ev2
    subst ev1
    subst ev2
    have HLT := Lib.hid hlt
    clear hlt
    go_enter Try.func26, Try.ntmps26
    go_wp2_with fail
    refine Calls.makes' (iCheck_c _ _ _ _ _ _ (fun _ => 0) _ (h.below hba) (Ints.nil _ _)) _ fun w1 hb => ?_
    have hb2 := hba.trans (hb.mono (by simp))
    have hbox : w1.cell? ⟨w.heap.size, 0, none⟩ = some (.slice (some ⟨b, o, none⟩) G vc) := by rw [hb.cell (p := ⟨w.heap.size, 0, none⟩) (by simp)]; simp
    have hs1 := hb.size
    simp at hs1
    rw [codeL_nil, hl]
    go_wp2_with fail
    refine Calls.makes' (iTriples_c 53 (fun _ _ => by simp [go_sem]) _ _ G vc hG (assB (NT G T)) _ (fun x y z hx hy hz W hbW => iAss1_c _ _ _ _ _ (HLT.out.below (hb2.trans (hbW.mono hb2.size))) (by rw [hbW.cell (p := ⟨w.heap.size, 0, none⟩) (by show w.heap.size < w1.heap.size; omega)]; exact hbox) x y z hx hy hz)) _ fun w3 hb3 => ?_
    go_wp2
    go_ret2
    exact ⟨rfl, hb2.trans (hb3.mono hb2.size)⟩

set_option maxHeartbeats 800000 in
theorem iIsMou_c (v : Value) (G : Nat) (L : Nat → Nat) (T : Nat → Nat → Int) (w : World) (h : Tab w v G L T) :
    Calls Try.prog 20 #[v] w fun e w' => Makes w w' e (rB (loopB G L T) (all3 G (mouB (NT G T)))) := by
  obtain ⟨vo, vc, rfl⟩ := h.shape
  have hba : Below w.heap.size w (w.alloc (.cells #[.slice vo G vc] 22)) := (Below.refl _ _).alloc (Nat.le_refl _) _
  cases hl : loopB G L T
  · go_enter Try.func20, Try.ntmps20
    go_wp2_with fail
    refine Calls.makes' (iCheck_c _ _ _ _ _ _ (fun _ => 0) _ (h.below hba) (Ints.nil _ _)) _ fun w1 hb => ?_
    rw [codeL_nil, hl]
    go_wp2
    go_ret2
    exact ⟨rfl, hba.trans (hb.mono (by simp))⟩
  · have hlt := h.lt (loopB_ok hl)
    obtain ⟨b, o, c, ev, hbl, hG⟩ := hlt.cap
    injection ev with ev1 _ ev2
    subst ev1
    subst ev2
    have HLT := Lib.hid hlt
    clear hlt
    go_enter Try.func20, Try.ntmps20
    go_wp2_with fail
    refine Calls.makes' (iCheck_c _ _ _ _ _ _ (fun _ => 0) _ (h.below hba) (Ints.nil _ _)) _ fun w1 hb => ?_
    have hb2 := hba.trans (hb.mono (by simp))
    have hbox : w1.cell? ⟨w.heap.size, 0, none⟩ = some (.slice (some ⟨b, o, none⟩) G vc) := by rw [hb.cell (p := ⟨w.heap.size, 0, none⟩) (by simp)]; simp
    have hs1 := hb.size
    simp at hs1
    rw [codeL_nil, hl]
    go_wp2_with fail
    refine Calls.makes' (iTriples_c 47 (fun _ _ => by simp [go_sem]) _ _ G vc hG (mouB (NT G T)) _ (fun x y z hx hy hz W hbW => iMou1_c _ _ _ _ _ (HLT.out.below (hb2.trans (hbW.mono hb2.size))) (by rw [hbW.cell (p := ⟨w.heap.size, 0, none⟩) (by show w.heap.size < w1.heap.size; omega)]; exact hbox) x y z hx hy hz)) _ fun w3 hb3 => ?_
    go_wp2
    go_ret2
    exact ⟨rfl, hb2.trans (hb3.mono hb2.size)⟩

set_option maxHeartbeats 800000 in
theorem iCountAss_c (v : Value) (G : Nat) (L : Nat → Nat) (T : Nat → Nat → Int) (w : World) (h : Tab w v G L T) :
    Calls Try.prog 28 #[v] w fun e w' => Makes w w' e (rI (loopB G L T) (cnt3 G (assB (NT G T)) G)) := by
  obtain ⟨vo, vc, rfl⟩ := h.shape
  have hba : Below w.heap.size w (w.alloc (.cells #[.slice vo G vc] 22)) := (Below.refl _ _).alloc (Nat.le_refl _) _
  cases hl : loopB G L T
  · go_enter Try.func28, Try.ntmps28
    go_wp2_with fail
    refine Calls.makes' (iCheck_c _ _ _ _ _ _ (fun _ => 0) _ (h.below hba) (Ints.nil _ _)) _ fun w1 hb => ?_
    rw [codeL_nil, hl]
    go_wp2
    go_ret2
    exact ⟨rfl, hba.trans (hb.mono (by simp))⟩
  · have hlt := h.lt (loopB_ok hl)
    obtain ⟨b, o, c, ev, hbl, hG⟩ := hlt.cap
    injection ev with ev1 _ ev2
    subst ev1
    subst ev2
    have HLT := Lib.hid hlt
    clear hlt
    go_enter Try.func28, Try.ntmps28
    go_wp2_with fail
    refine Calls.makes' (iCheck_c _ _ _ _ _ _ (fun _ => 0) _ (h.below hba) (Ints.nil _ _)) _ fun w1 hb => ?_
    have hb2 := hba.trans (hb.mono (by simp))
    have hbox : w1.cell? ⟨w.heap.size, 0, none⟩ = some (.slice (some ⟨b, o, none⟩) G vc) := by rw [hb.cell (p := ⟨w.heap.size, 0, none⟩) (by simp)]; simp
    have hs1 := hb.size
    simp at hs1
    rw [codeL_nil, hl]
    have hs2 : w.heap.size < w1.heap.size := hs1
    clear hs1
    have hbm : Below w.heap.size w (w1.alloc (.cells #[.int .i64 0] 2)) := hb2.alloc (by omega) _
    go_wp2_with fail
    refine (iTriplesCount_c 55 (fun _ _ => by simp [go_sem]) _ _ _ G vc hG (assB (NT G T)) (Cnt (w1.alloc (.cells #[.int .i64 0] 2)) w1.heap.size) _ ⟨heap_alloc_new _ _, Chg.refl _ _⟩
      (fun x y z m hx hy hz hm W hI => iCount1_c _ _ _ _ _ _ (by omega) (fun W hc => HLT.out.below (hbm.trans (hc.below (by simp; omega) (fun k e => by omega)))) (by rw [World.cell?_alloc_old _ _ _ (by show w.heap.size ≠ w1.heap.size; omega)]; exact hbox) x y z m hx hy hz hm W hI)).mono ?_
    rintro e w3 ⟨rfl, hI3⟩
    have hcm := cell_of_one hI3.box
    have hb5 := hbm.trans (hI3.chg.below (by simp; omega) (fun k e => by omega))
    go_wp2
    go_ret2
    exact ⟨rfl, hb5⟩

set_option maxHeartbeats 400000 in
theorem iInverse_c (v : Value) (G : Nat) (L : Nat → Nat) (T : Nat → Nat → Int) (w : World) (h : Tab w v G L T) (x : Int) :
    Calls Try.prog 24 #[v, .int .i64 x] w fun e w' => Makes w w' e (rC (codeV (loopB G L T) G x) (idx (fun j => NT G T x.toNat j) 0 G)) := by
  have hba : Below w.heap.size w (w.alloc (.cells #[.int .i64 x] 2)) := (Below.refl _ _).alloc (Nat.le_refl _) _
  by_cases hc : codeV (loopB G L T) G x = 0
  · obtain ⟨hl, hx0, hx1⟩ := codeV_ok hc
    have hlt := h.lt (loopB_ok hl)
    obtain ⟨n, rfl⟩ := Int.eq_ofNat_of_zero_le hx0
    have hn : n < G := by omega
    obtain ⟨c, b, o, u, rfl, hu, hI⟩ := hlt.row hn
    have HL := Lib.hid hlt
    clear hlt
    go_enter Try.func24, Try.ntmps24
    go_wp2_with fail
    refine Calls.makes' (iCheck_c _ _ _ _ _ _ (fun _ => n) _ (h.below hba) (Ints.one _ _ _)) _ fun w1 hb => ?_
    have hb2 := hba.trans (hb.mono (by simp))
    have hu1 : w1.cell? ⟨b, o + n, none⟩ = some u := by rw [hb2.cell (p := ⟨b, o + n, none⟩) (lt_of_cell hu)]; exact hu
    have hI1 := hI.below hb2
    rw [codeL_one, hc]
    go_wp2_with fail
    refine (iIndex_c _ _ _ _ _ hI1).mono ?_
    rintro e w' ⟨rfl, rfl⟩
    go_wp2
    go_ret2
    rw [show rC (codeV (loopB G L T) G n) (idx (fun j => NT G T (n : Int).toNat j) 0 G) = .tuple #[.int .i64 (idx (fun j => NT G T n j) 0 G), .int .i64 0] from if_pos hc]
    exact ⟨rfl, hb2⟩
  · have hc' : (codeV (loopB G L T) G x != 0) = true := by simpa using hc
    go_enter Try.func24, Try.ntmps24
    go_wp2_with fail
    refine Calls.makes' (iCheck_c _ _ _ _ _ _ (fun _ => x) _ (h.below hba) (Ints.one _ _ _)) _ fun w1 hb => ?_
    rw [codeL_one]
    go_wp2
    go_ret2
    rw [show rC (codeV (loopB G L T) G x) (idx (fun j => NT G T x.toNat j) 0 G) = .tuple #[.int .i64 0, .int .i64 (codeV (loopB G L T) G x)] from if_neg hc]
    exact ⟨rfl, hba.trans (hb.mono (by simp))⟩

set_option maxHeartbeats 400000 in
theorem iOrder_c (v : Value) (G : Nat) (L : Nat → Nat) (T : Nat → Nat → Int) (w : World) (h : Tab w v G L T) (x : Int) :
    Calls Try.prog 22 #[v, .int .i64 x] w fun e w' => Makes w w' e (rO (codeV (loopB G L T) G x) (G + 1) (fst (fun k => powN (NT G T) x.toNat k == 0) (G + 1))) := by
  have hba : Below w.heap.size w (w.alloc (.cells #[.int .i64 x] 2)) := (Below.refl _ _).alloc (Nat.le_refl _) _
  by_cases hc : codeV (loopB G L T) G x = 0
  · obtain ⟨hl, hx0, hx1⟩ := codeV_ok hc
    have hlt := h.lt (loopB_ok hl)
    obtain ⟨n, rfl⟩ := Int.eq_ofNat_of_zero_le hx0
    have hn : n < G := by omega
    rw [show rO (codeV (loopB G L T) G (n : Int)) (G + 1) (fst (fun k => powN (NT G T) (n : Int).toNat k == 0) (G + 1)) = ordV (G + 1) (fst (fun k => powN (NT G T) n k == 0) (G + 1)) from if_pos hc]
    obtain ⟨N, hN⟩ : ∃ N, NT G T = N := ⟨_, rfl⟩
    rw [hN] at hlt ⊢
    clear hN hx0 hx1
    obtain ⟨c, b, o, C, RB, RO, rfl, p2, p3, p4, p5, p6, p7, p8, p9⟩ := hlt.out
    clear p5 hlt
    have P4 := Lib.hid p4
    have P6 := Lib.hid p6
    clear p4 p6
    have hpw : ∀ k, powN N n k < G := fun k => by cases k with | zero => exact hn | succ k => exact p9 _ _
    go_enter Try.func22, Try.ntmps22
    go_wp2_with fail
    refine Calls.makes' (iCheck_c _ _ _ _ _ _ (fun _ => n) _ (h.below hba) (Ints.one _ _ _)) _ fun w1 hb0 => ?_
    have hb := hba.trans (hb0.mono (by simp))
    have p4 : ∀ i, i < G → w1.cell? ⟨b, o + i, none⟩ = some (.slice (some ⟨RB i, RO i, none⟩) G (C i)) := fun i hi => by rw [hb.cell (p := ⟨b, o + i, none⟩) (lt_of_cell (P4.out i hi))]; exact P4.out i hi
    have p6 : ∀ i j, i < G → j < G → w1.cell? ⟨RB i, RO i + j, none⟩ = some (.int .i64 (N i j)) := fun i j hi hj => by rw [hb.cell (p := ⟨RB i, RO i + j, none⟩) (lt_of_cell (P6.out i j hi hj))]; exact P6.out i j hi hj
    rw [codeL_one, hc]
    go_wp2
    go_loopg [7, 8] (G + 1) (fun g m i wr => w1 = wr ∧ ∃ k : Nat, k ≤ G + 1 ∧ g = G + 1 - k ∧ i = .int .i64 ((k : Int) + 1) ∧ m = .int .i64 (powN N n k) ∧ ∀ j, j < k → (powN N n j == 0) = false)
    case atStart => exact ⟨rfl, 0, Nat.zero_le _, rfl, rfl, rfl, fun j hj => absurd hj (Nat.not_lt_zero _)⟩
    case round =>
      obtain ⟨rfl, k, hk, rfl, rfl, rfl, hall⟩ := hrel
      have H := Lib.hid hall; clear hall
      by_cases hlt2 : k < G + 1
      · have hk1 := hpw k
        cases hz : (powN N n k == 0)
        · have hz' : ((powN N n k : Int) == 0) = false := by rw [beq_eq_false_iff_ne] at hz ⊢; omega
          have c1 := p4 (powN N n k) hk1
          have c2 := p6 (powN N n k) n hk1 hn
          have Hs : Hid (powN N n (k + 1) = N (powN N n k) n) := rfl
          have HZ := Lib.hid hz; clear hz p4 p6 p9 hpw
          go_wp2_with (go_at_call 49; refine (iLenR_c _ _ _ _ (by omega)).mono ?_; rintro e w' ⟨rfl, rfl⟩)
          go_roundg (G + 1 - (k + 1))
          case measure => omega
          case rel => exact ⟨rfl, k + 1, by omega, rfl, by go_num, by rw [Hs.out], fun j hj => by
            by_cases e : j = k
            · subst e; exact HZ.out
            · exact H.out j (by omega)⟩
        · have hz' : ((powN N n k : Int) == 0) = true := by rw [beq_iff_eq] at hz ⊢; omega
          have HZ := Lib.hid hz; clear hz p4 p6 p9 hpw
          go_wp2_with (go_at_call 49; refine (iLenR_c _ _ _ _ (by omega)).mono ?_; rintro e w' ⟨rfl, rfl⟩)
          go_ret2
          have e : ordV (G + 1) (fst (fun k => powN N n k == 0) (G + 1)) = .tuple #[.int .i64 ((k + 1 : Nat) : Int), .int .i64 0] := by rw [fst_at hlt2 H.out HZ.out]; exact if_pos hlt2
          rw [e]
          exact ⟨rfl, hb⟩
      · obtain rfl : k = G + 1 := by omega
        clear p4 p6 p9 hpw
        go_wp2_with (go_at_call 49; refine (iLenR_c _ _ _ _ (by omega)).mono ?_; rintro e w' ⟨rfl, rfl⟩)
        go_ret2
        have e : ordV (G + 1) (fst (fun k => powN N n k == 0) (G + 1)) = .tuple #[.int .i64 0, .int .i64 5] := by rw [fst_none H.out]; exact if_neg (Nat.lt_irrefl _)
        rw [e]
        exact ⟨rfl, hb⟩
  · have hc' : (codeV (loopB G L T) G x != 0) = true := by simpa using hc
    rw [show rO (codeV (loopB G L T) G x) (G + 1) (fst (fun k => powN (NT G T) x.toNat k == 0) (G + 1)) = .tuple #[.int .i64 0, .int .i64 (codeV (loopB G L T) G x)] from if_neg hc]
    go_enter Try.func22, Try.ntmps22
    go_wp2_with fail
    refine Calls.makes' (iCheck_c _ _ _ _ _ _ (fun _ => x) _ (h.below hba) (Ints.one _ _ _)) _ fun w1 hb => ?_
    rw [codeL_one]
    go_wp2
    go_ret2
    exact ⟨rfl, hba.trans (hb.mono (by simp))⟩

/-- The program's order and the reference's are one. -/
theorem rO_same (G : Nat) (L : Nat → Nat) (T : Nat → Nat → Int) (x : Int) : rO (codeV (loopB G L T) G x) (G + 1) (fst (fun k => powN (NT G T) x.toNat k == 0) (G + 1)) = rO (codeV (loopB G L T) G x) G (fst (fun k => powN (NT G T) x.toNat k == 0) G) := by
  by_cases hc : codeV (loopB G L T) G x = 0
  · obtain ⟨hl, hx0, hx1⟩ := codeV_ok hc
    have h := fst_more ((loopB_ok hl).power (x := x.toNat) (by omega)) 1
    unfold rO
    rw [if_pos hc, if_pos hc, h.2]
    unfold ordV
    rw [if_pos h.1, if_pos (by omega)]
  · unfold rO
    rw [if_neg hc, if_neg hc]

end Go.Proofs.Ytejjefjpjaeljaa
