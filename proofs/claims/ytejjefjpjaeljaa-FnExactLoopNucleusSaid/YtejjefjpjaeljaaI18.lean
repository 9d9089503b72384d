/-
  What the program's functions on loops compute: commutative loops, the nucleus. No condition beside sizes.
-/
import Derived.Test.YtejjefjpjaeljaaI17
set_option linter.unusedVariables false
set_option linter.unusedSimpArgs false
namespace Go.Proofs.Ytejjefjpjaeljaa
open Go.RowKit

set_option maxHeartbeats 400000 in
theorem iEqual_c (v1 v2 : Value) (n m : Nat) (X Y : Nat → Int) (w : World) (h1 : Ints w v1 n X) (h2 : Ints w v2 m Y) :
    Calls Try.prog 67 #[v1, v2] w fun e w' => Reads w w' e (.bool (eqB n m X Y)) := by
  obtain ⟨ao, c, ab, aoff, rfl, p2, p3, p4, p5⟩ := h1.out
  obtain ⟨bo, d, bb, boff, rfl, r2, r3, r4, r5⟩ := h2.out
  clear h1 h2
  by_cases hnm : n = m
  · subst hnm
    go_enter Try.func67, Try.ntmps67
    go_wp2
    go_loopg [13] n (fun g i wr => ∃ k : Nat, k ≤ n ∧ g = n - k ∧ i = .int .i64 k ∧ (∃ q, wr = w.drewN q) ∧ ∀ j, j < k → X j = Y j)
    case atStart => exact ⟨0, Nat.zero_le _, rfl, rfl, ⟨0, rfl⟩, fun j hj => absurd hj (Nat.not_lt_zero _)⟩
    case round =>
      obtain ⟨k, hk, rfl, rfl, ⟨q, rfl⟩, hall⟩ := hrel
      have H := Lib.hid hall; clear hall
      by_cases hlt : k < n
      · obtain rfl := p4 (by omega)
        obtain rfl := r4 (by omega)
        go_wp2
        go_quiet (fail)
        go_wp2
        · have ht : (X k != Y k) = true := by assumption
          go_ret
          exact ⟨ret_bool (eqB_at hlt (by simpa using ht)).symm, by first | exact ⟨_, rfl⟩ | exact ⟨_, World.drewN_drewN _ _ _⟩⟩
        · have ht : (X k != Y k) = false := by assumption
          go_roundg (n - (k + 1))
          case measure => omega
          case rel => exact ⟨k + 1, by omega, rfl, by go_num, (by first | exact ⟨_, rfl⟩ | exact ⟨_, World.drewN_drewN _ _ _⟩), fun j hj => by
            by_cases e : j = k
            · subst e; simpa using ht
            · exact H.out j (by omega)⟩
      · obtain rfl : k = n := by omega
        go_wp2
        go_ret
        exact ⟨ret_bool (eqB_all H.out).symm, _, rfl⟩
  · have hd : ((n : Int) != (m : Int)) = true := by rw [bne_iff_ne]; omega
    go_enter Try.func67, Try.ntmps67
    go_wp2
    go_ret
    exact ⟨ret_bool (eqB_ne hnm).symm, 0, rfl⟩

set_option maxHeartbeats 400000 in
theorem iSameRows_c (v1 v2 : Value) (G H : Nat) (L M : Nat → Nat) (T U : Nat → Nat → Int) (w : World) (h1 : Tab w v1 G L T) (h2 : Tab w v2 H M U) :
    Calls Try.prog 56 #[v1, v2] w fun e w' => Reads w w' e (.bool (eqTB G H L M T U)) := by
  have main : Calls Try.prog 66 #[v1, v2, .func (.func 67) #[] #[]] w fun e w' => Reads w w' e (.bool (eqTB G H L M T U)) := by
    obtain ⟨ao, c, ab, aoff, A, C, RB, RO, rfl, p2, p3, p4, p5, p6, p7, p8⟩ := h1.out
    obtain ⟨bo, d, bb, boff, A', C', RB', RO', rfl, r2, r3, r4, r5, r6, r7, r8⟩ := h2.out
    clear h1 h2
    have hr1 : ∀ i, i < G → Ints w (.slice (A i) (L i) (C i)) (L i) (T i) := fun i hi => Tab.rowAt p6 p7 p8 hi
    have hr2 : ∀ i, i < H → Ints w (.slice (A' i) (M i) (C' i)) (M i) (U i) := fun i hi => Tab.rowAt r6 r7 r8 hi
    have H1 := Lib.hid hr1
    have H2 := Lib.hid hr2
    clear hr1 hr2 p6 p7 p8 r6 r7 r8
    by_cases hnm : G = H
    · subst hnm
      go_enter Try.func66, Try.ntmps66
      go_wp2
      go_loopg [17] G (fun g i wr => ∃ k : Nat, k ≤ G ∧ g = G - k ∧ i = .int .i64 k ∧ (∃ q, wr = w.drewN q) ∧ ∀ j, j < k → eqB (L j) (M j) (T j) (U j) = true)
      case atStart => exact ⟨0, Nat.zero_le _, rfl, rfl, ⟨0, rfl⟩, fun j hj => absurd hj (Nat.not_lt_zero _)⟩
      case round =>
        obtain ⟨k, hk, rfl, rfl, ⟨q, rfl⟩, hall⟩ := hrel
        have H := Lib.hid hall; clear hall
        by_cases hlt : k < G
        · obtain rfl := p4 (by omega)
          obtain rfl := r4 (by omega)
          have e1 := p5 k hlt
          have e2 := r5 k hlt
          have i1 : ∀ q, Ints (w.drewN q) (.slice (A k) (L k) (C k)) (L k) (T k) := fun q => (H1.out k hlt).drewN q
          have i2 : ∀ q, Ints (w.drewN q) (.slice (A' k) (M k) (C' k)) (M k) (U k) := fun q => (H2.out k hlt).drewN q
          have I1 := Lib.hid i1
          have I2 := Lib.hid i2
          clear i1 i2 p5 r5
          go_wp2_with fail
          refine Calls.reads' (wr := w) (iEqual_c _ _ _ _ _ _ _ (I1.out _) (I2.out _)) _ fun q2 => ?_
          cases hb : eqB (L k) (M k) (T k) (U k)
          · go_wp2
            go_ret
            exact ⟨ret_bool (eqTB_at hlt hb).symm, by first | exact ⟨_, rfl⟩ | exact ⟨_, World.drewN_drewN _ _ _⟩⟩
          · go_wp2
            go_roundg (G - (k + 1))
            case measure => omega
            case rel => exact ⟨k + 1, by omega, rfl, by go_num, (by first | exact ⟨_, rfl⟩ | exact ⟨_, World.drewN_drewN _ _ _⟩), fun j hj => by
              by_cases e : j = k
              · subst e; exact hb
              · exact H.out j (by omega)⟩
        · obtain rfl : k = G := by omega
          go_wp2
          go_ret
          exact ⟨ret_bool (eqTB_all H.out).symm, _, rfl⟩
    · have hd : ((G : Int) != (H : Int)) = true := by rw [bne_iff_ne]; omega
      go_enter Try.func66, Try.ntmps66
      go_wp2
      go_ret
      exact ⟨ret_bool (eqTB_ne hnm).symm, 0, rfl⟩
  have HM := Lib.hid main
  clear main
  go_enter Try.func56, Try.ntmps56
  go_wp2_with fail
  refine Calls.reads' (wr := w) HM.out _ fun q2 => ?_
  go_wp2
  go_ret
  exact ⟨rfl, _, rfl⟩

theorem eqTB_com {G : Nat} {L : Nat → Nat} {T : Nat → Nat → Int} (h : LoopOk G L T) : eqTB G G L (fun _ => G) T (fun k i => T i k) = all2 G (comB (NT G T)) := by
  by_cases hc : ∀ x y, x < G → y < G → comB (NT G T) x y = true
  · rw [all2_true hc]
    refine eqTB_all fun i hi => ?_
    rw [h.len i hi]
    refine eqB_all fun j hj => ?_
    have := hc i j hi hj
    unfold comB at this
    simp only [beq_iff_eq] at this
    rw [h.nt hi hj, h.nt hj hi, this]
  · obtain ⟨x, hx⟩ := Classical.not_forall.1 hc
    obtain ⟨y, hy⟩ := Classical.not_forall.1 hx
    obtain ⟨hx, hy⟩ := Classical.not_imp.1 hy
    obtain ⟨hy, hxy⟩ := Classical.not_imp.1 hy
    rw [all2_false hx hy (by simpa using hxy)]
    refine eqTB_at hx ?_
    rw [h.len x hx]
    refine eqB_at hy fun e => hxy ?_
    unfold comB
    simp only [beq_iff_eq]
    rw [h.nt hx hy, h.nt hy hx] at e
    exact e

set_option maxHeartbeats 400000 in
theorem iIsCom_c (v : Value) (G : Nat) (L : Nat → Nat) (T : Nat → Nat → Int) (w : World) (h : Tab w v G L T) :
    Calls Try.prog 30 #[v] w fun e w' => Makes w w' e (rB (loopB G L T) (all2 G (comB (NT G T)))) := by
  cases hl : loopB G L T
  · go_enter Try.func30, Try.ntmps30
    go_wp2_with fail
    refine Calls.makes' (iCheck_c _ _ _ _ _ _ (fun _ => 0) _ h (Ints.nil _ _)) _ fun w1 hb => ?_
    rw [codeL_nil, hl]
    go_wp2
    go_ret2
    exact ⟨rfl, hb⟩
  · have hok := loopB_ok hl
    have HOk := Lib.hid hok
    have h1 := hok.pos
    have h2 := hok.max
    clear hok
    go_enter Try.func30, Try.ntmps30
    go_wp2_with fail
    refine Calls.makes' (iCheck_c _ _ _ _ _ _ (fun _ => 0) _ h (Ints.nil _ _)) _ fun w1 hb => ?_
    rw [codeL_nil, hl]
    go_wp2_with fail
    refine (iTranspose_c _ G G _ _ _ (h.below hb) h1 (by omega) (by omega) (HOk.out.len 0 (by omega)) (fun i hi => by rw [HOk.out.len i hi]; exact Nat.le_refl _)).mono ?_
    rintro e w2 ⟨g1, c1, rfl, hb1, hT1⟩
    have hb2 := hb.trans (hb1.mono hb.size)
    go_wp2_with fail
    refine Calls.reads' (wr := w) (iSameRows_c _ _ _ _ _ _ _ _ _ (h.below hb2) hT1.tab) _ fun q2 => ?_
    rw [eqTB_com HOk.out]
    go_wp2
    go_ret2
    exact ⟨rfl, Reads.below hb2⟩

set_option maxHeartbeats 1000000 in
theorem iNuc_c (v : Value) (G : Nat) (N : Nat → Nat → Nat) (w : World) (h : LT w v G N) :
    Calls Try.prog 58 #[v] w fun e w' => CopyI w w' e (cnt (nucX G N) G) (fun i => sel (nucX G N) G i) := by
  have HLT := Lib.hid h
  obtain ⟨c, b, o, C, RB, RO, rfl, p2, p3, p4, p5, p6, p7, p8, p9⟩ := h.out
  clear p4 p5 p6 p9 h
  go_enter Try.func58, Try.ntmps58
  go_wp2_with (go_at_call 49; refine (iLenR_c _ _ _ _ (by omega)).mono ?_; rintro e w' ⟨rfl, rfl⟩)
  go_loopg [3, 11] G (fun g s i wr => ∃ x : Nat, x ≤ G ∧ g = G - x ∧ i = .int .i64 x ∧ ∃ g' c', s = .slice (some ⟨g', 0, none⟩) (cnt (nucX G N) x) c' ∧ w.heap.size ≤ g' ∧ Below w.heap.size w wr ∧ Own wr 2 g' c' (cnt (nucX G N) x) (fun i => .int .i64 (sel (nucX G N) x i)))
  case atStart => exact ⟨0, Nat.zero_le _, rfl, rfl, _, _, rfl, Nat.le_refl _, (Below.refl _ _).alloc (Nat.le_refl _) _, Own.empty _ _ _⟩
  case round =>
    obtain ⟨x, hx, rfl, rfl, g', c', rfl, hg', hb, hO⟩ := hrel
    have hcx := cnt_le (nucX G N) x
    by_cases hlt : x < G
    · have H := Lib.hid (fun q => (HLT.out.below hb).drewN q)
      go_wp2_with (go_at_call 49; refine (iLenR_c _ _ _ _ (by omega)).mono ?_; rintro e w' ⟨rfl, rfl⟩)
      obtain ⟨wo, hwo⟩ : ∃ wo, wo = wr := ⟨_, rfl⟩
      rw [← hwo] at H hb hO ⊢
      clear hwo
      go_loopg [5, 16] G (fun g s i wr => ∃ (y : Nat) (gd : Bool), y ≤ G ∧ g = G - y ∧ i = .int .i64 y ∧ s = .bool gd ∧ (∃ q, wr = wo.drewN q) ∧ (gd = true → ∀ y' z, y' < y → z < G → nucB N x y' z = true) ∧ (gd = false → ∃ y' z, y' < G ∧ z < G ∧ nucB N x y' z = false))
      case atStart => exact ⟨0, true, Nat.zero_le _, rfl, rfl, rfl, ⟨0, rfl⟩, fun _ y' z h => absurd h (Nat.not_lt_zero _), (fun h => by cases h)⟩
      case round =>
        obtain ⟨y, gd, hy, rfl, rfl, rfl, ⟨q, rfl⟩, h1, h2⟩ := hrel
        have H1 := Lib.hid h1
        have H2 := Lib.hid h2
        clear h1 h2
        by_cases hlt2 : y < G
        · go_wp2_with (go_at_call 49; refine (iLenR_c _ _ _ _ (by omega)).mono ?_; rintro e w' ⟨rfl, rfl⟩)
          go_loopg [5, 21] G (fun g s i wr => ∃ (z : Nat) (gd2 : Bool), z ≤ G ∧ g = G - z ∧ i = .int .i64 z ∧ s = .bool gd2 ∧ (∃ q, wr = wo.drewN q) ∧ (gd2 = true → gd = true ∧ ∀ z', z' < z → nucB N x y z' = true) ∧ (gd2 = false → ∃ y' z', y' < G ∧ z' < G ∧ nucB N x y' z' = false))
          case atStart => exact ⟨0, gd, Nat.zero_le _, rfl, rfl, rfl, ⟨q, rfl⟩, fun h => ⟨h, fun z' h => absurd h (Nat.not_lt_zero _)⟩, H2.out⟩
          case round =>
            obtain ⟨z, gd2, hz, rfl, rfl, rfl, ⟨q2, rfl⟩, h3, h4⟩ := hrel
            have H3 := Lib.hid h3
            have H4 := Lib.hid h4
            clear h3 h4
            by_cases hlt3 : z < G
            · cases gd2
              · go_wp2_with fail
                go_roundg (G - (z + 1))
                case measure => omega
                case rel => exact ⟨z + 1, false, by omega, rfl, by go_num, rfl, ⟨_, rfl⟩, (fun h => by cases h), fun _ => H4.out (by trivial)⟩
              · cases a1 : assB N x y z
                · have hn : Hid (nucB N x y z = false) := by unfold nucB; rw [a1]; rfl
                  go_wp2_with fail
                  refine Calls.reads' (wr := w) (iAss_c _ _ _ _ (H.out _) x y z hlt hlt2 hlt3) _ fun q5 => ?_
                  go_wp2
                  go_roundg (G - (z + 1))
                  case measure => omega
                  case rel => exact ⟨z + 1, false, by omega, rfl, by go_num, by simp [a1], by first | exact ⟨_, rfl⟩ | exact ⟨_, World.drewN_drewN _ _ _⟩, (fun h => by cases h), fun _ => ⟨y, z, hlt2, hlt3, hn.out⟩⟩
                · cases a2 : assB N y x z
                  · have hn : Hid (nucB N x y z = false) := by unfold nucB; rw [a1, a2]; rfl
                    go_wp2_with fail
                    refine Calls.reads' (wr := w) (iAss_c _ _ _ _ (H.out _) x y z hlt hlt2 hlt3) _ fun q5 => ?_
                    go_wp2_with fail
                    refine Calls.reads' (wr := w) (iAss_c _ _ _ _ (H.out _) y x z hlt2 hlt hlt3) _ fun q6 => ?_
                    go_wp2
                    go_roundg (G - (z + 1))
                    case measure => omega
                    case rel => exact ⟨z + 1, false, by omega, rfl, by go_num, by simp [a1, a2], by first | exact ⟨_, rfl⟩ | exact ⟨_, World.drewN_drewN _ _ _⟩, (fun h => by cases h), fun _ => ⟨y, z, hlt2, hlt3, hn.out⟩⟩
                  · have hn : Hid (nucB N x y z = assB N y z x) := by unfold nucB; rw [a1, a2]; rfl
                    go_wp2_with fail
                    refine Calls.reads' (wr := w) (iAss_c _ _ _ _ (H.out _) x y z hlt hlt2 hlt3) _ fun q5 => ?_
                    go_wp2_with fail
                    refine Calls.reads' (wr := w) (iAss_c _ _ _ _ (H.out _) y x z hlt2 hlt hlt3) _ fun q6 => ?_
                    go_wp2_with fail
                    refine Calls.reads' (wr := w) (iAss_c _ _ _ _ (H.out _) y z x hlt2 hlt3 hlt) _ fun q7 => ?_
                    go_wp2
                    go_roundg (G - (z + 1))
                    case measure => omega
                    case rel => exact ⟨z + 1, assB N y z x, by omega, rfl, by go_num, by simp [a1, a2], by first | exact ⟨_, rfl⟩ | exact ⟨_, World.drewN_drewN _ _ _⟩, fun h => ⟨(H3.out (by trivial)).1, fun z' hz' => by
                      by_cases e : z' = z
                      · subst e; rw [hn.out]; exact h
                      · exact (H3.out (by trivial)).2 z' (by omega)⟩, fun h => ⟨y, z, hlt2, hlt3, by rw [hn.out]; exact h⟩⟩
            · obtain rfl : z = G := by omega
              go_wp2
              go_roundg (z - (y + 1))
              case measure => omega
              case rel => exact ⟨y + 1, gd2, by omega, rfl, by go_num, rfl, ⟨_, rfl⟩, fun h y' z' hy' hz' => by
                by_cases e : y' = y
                · subst e; exact (H3.out h).2 z' hz'
                · exact H1.out (H3.out h).1 y' z' (by omega) hz', H4.out⟩
        · obtain rfl : y = G := by omega
          have hOq := hO.drewN q
          cases gd
          · have Hn : Hid (nucX y N x = false) := by obtain ⟨y', z, hy', hz, e⟩ := H2.out (by trivial); exact all2_false hy' hz e
            have hn := Hn.out
            go_wp2
            go_roundg (y - (x + 1))
            case measure => omega
            case rel => exact ⟨x + 1, by omega, rfl, by go_num, g', c', by simp [cnt, hn], hg', Reads.below hb, (hOq.shorter (by simp [cnt, hn])).congr fun i hi => by rw [sel_old (by simpa [cnt, hn] using hi)]⟩
          · have Hn : Hid (nucX y N x = true) := all2_true (H1.out (by trivial))
            have hn := Hn.out
            go_wp2_with (at_builtin; refine wpList_push _ rfl _ _ _ _ elI rfl hOq (.int .i64 x) rfl rfl rfl (by omega) (by omega) ?_; intro g2 c2 w2 hO2 hg2 hgr2)
            have e : cnt (nucX y N) (x + 1) = cnt (nucX y N) x + 1 := by simp [cnt, hn]
            have hsz := hb.size
            have hlt4 := hO.lt
            go_roundg (y - (x + 1))
            case measure => omega
            case rel =>
              refine ⟨x + 1, by omega, rfl, by go_num, g2, c2, by rw [e], ?_, (Reads.below hb).grown hgr2 (by simpa using hsz) (fun k e => by injection e with e; omega), ?_⟩
              · rcases hg2 with h | h
                · omega
                · simp at h; omega
              · rw [e]
                refine hO2.congr fun i hi => ?_
                by_cases e2 : i = cnt (nucX y N) x
                · subst e2; rw [if_pos rfl, sel_new hn]
                · rw [if_neg e2, sel_old (by omega)]
    · obtain rfl : x = G := by omega
      go_wp2
      go_ret
      exact ⟨_, _, rfl, hg', hb, hO⟩

set_option maxHeartbeats 400000 in
theorem iNucleus_c (v : Value) (G : Nat) (L : Nat → Nat) (T : Nat → Nat → Int) (w : World) (h : Tab w v G L T) :
    Calls Try.prog 32 #[v] w fun e w' => ResI w w' e (loopB G L T) (cnt (nucX G (NT G T)) G) (fun i => sel (nucX G (NT G T)) G i) := by
  cases hl : loopB G L T
  · go_enter Try.func32, Try.ntmps32
    go_wp2_with fail
    refine Calls.makes' (iCheck_c _ _ _ _ _ _ (fun _ => 0) _ h (Ints.nil _ _)) _ fun w1 hb => ?_
    rw [codeL_nil, hl]
    go_wp2
    go_ret2
    exact ⟨hb, .inr ⟨rfl, rfl⟩⟩
  · have hlt := h.lt (loopB_ok hl)
    go_enter Try.func32, Try.ntmps32
    go_wp2_with fail
    refine Calls.makes' (iCheck_c _ _ _ _ _ _ (fun _ => 0) _ h (Ints.nil _ _)) _ fun w1 hb => ?_
    rw [codeL_nil, hl]
    go_wp2_with fail
    refine (iNuc_c _ _ _ _ (hlt.below hb)).mono ?_
    rintro e w' ⟨g, c, rfl, hg, hb2, hO⟩
    have hs := hb.size
    go_wp2
    go_ret2
    exact ⟨hb.trans (hb2.mono hs), .inl ⟨rfl, g, c, rfl, by omega, hO⟩⟩

end Go.Proofs.Ytejjefjpjaeljaa
