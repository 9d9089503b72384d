/-
  What the reference's functions on loops compute: order, nucleus. No condition beside sizes.
-/
import Derived.Test.YtejjefjpjaeljaaT15
set_option linter.unusedVariables false
set_option linter.unusedSimpArgs false
namespace Go.Proofs.Ytejjefjpjaeljaa
open Go.RowKit

/-- the place found, one more; or the code 5 -/
def ordV (n k : Nat) : Value := if k < n then .tuple #[.int .i64 ((k + 1 : Nat) : Int), .int .i64 0] else .tuple #[.int .i64 0, .int .i64 5]
def rO (code : Int) (n k : Nat) : Value := if code = 0 then ordV n k else .tuple #[.int .i64 0, .int .i64 code]

set_option maxHeartbeats 400000 in
theorem sOrder_c (v : Value) (G : Nat) (L : Nat → Nat) (T : Nat → Nat → Int) (w : World) (h : Tab w v G L T) (x : Int) :
    Calls Try.prog 21 #[v, .int .i64 x] w fun e w' => Makes w w' e (rO (codeV (loopB G L T) G x) G (fst (fun k => powN (NT G T) x.toNat k == 0) G)) := by
  by_cases hc : codeV (loopB G L T) G x = 0
  · obtain ⟨hl, hx0, hx1⟩ := codeV_ok hc
    have hlt := h.lt (loopB_ok hl)
    obtain ⟨n, rfl⟩ := Int.eq_ofNat_of_zero_le hx0
    have hn : n < G := by omega
    rw [show rO (codeV (loopB G L T) G (n : Int)) G (fst (fun k => powN (NT G T) (n : Int).toNat k == 0) G) = ordV G (fst (fun k => powN (NT G T) n k == 0) G) from if_pos hc]
    obtain ⟨N, hN⟩ : ∃ N, NT G T = N := ⟨_, rfl⟩
    rw [hN] at hlt ⊢
    clear hN hx0 hx1
    obtain ⟨c, b, o, C, RB, RO, rfl, p2, p3, p4, p5, p6, p7, p8, p9⟩ := hlt.out
    clear p5 hlt
    have P4 := Lib.hid p4
    have P6 := Lib.hid p6
    clear p4 p6
    have hpw : ∀ k, powN N n k < G := fun k => by cases k with | zero => exact hn | succ k => exact p9 _ _
    go_enter Try.func21, Try.ntmps21
    go_wp2_with fail
    refine Calls.makes' (sCode_c _ _ _ _ _ h _) _ fun w1 hb => ?_
    have p4 : ∀ i, i < G → w1.cell? ⟨b, o + i, none⟩ = some (.slice (some ⟨RB i, RO i, none⟩) G (C i)) := fun i hi => by rw [hb.cell (p := ⟨b, o + i, none⟩) (lt_of_cell (P4.out i hi))]; exact P4.out i hi
    have p6 : ∀ i j, i < G → j < G → w1.cell? ⟨RB i, RO i + j, none⟩ = some (.int .i64 (N i j)) := fun i j hi hj => by rw [hb.cell (p := ⟨RB i, RO i + j, none⟩) (lt_of_cell (P6.out i j hi hj))]; exact P6.out i j hi hj
    rw [hc]
    go_wp2
    go_loopg [7, 8] G (fun g m i wr => w1 = wr ∧ ∃ k : Nat, k ≤ G ∧ g = G - k ∧ i = .int .i64 ((k : Int) + 1) ∧ m = .int .i64 (powN N n k) ∧ ∀ j, j < k → (powN N n j == 0) = false)
    case atStart => exact ⟨rfl, 0, Nat.zero_le _, rfl, rfl, rfl, fun j hj => absurd hj (Nat.not_lt_zero _)⟩
    case round =>
      obtain ⟨rfl, k, hk, rfl, rfl, rfl, hall⟩ := hrel
      have H := Lib.hid hall; clear hall
      by_cases hlt2 : k < G
      · have hk1 := hpw k
        cases hz : (powN N n k == 0)
        · have hz' : ((powN N n k : Int) == 0) = false := by rw [beq_eq_false_iff_ne] at hz ⊢; omega
          have c1 := p4 (powN N n k) hk1
          have c2 := p6 (powN N n k) n hk1 hn
          have Hs : Hid (powN N n (k + 1) = N (powN N n k) n) := rfl
          have HZ := Lib.hid hz; clear hz p4 p6 p9 hpw
          go_wp2
          go_roundg (G - (k + 1))
          case measure => omega
          case rel => exact ⟨rfl, k + 1, by omega, rfl, by go_num, by rw [Hs.out], fun j hj => by
            by_cases e : j = k
            · subst e; exact HZ.out
            · exact H.out j (by omega)⟩
        · have hz' : ((powN N n k : Int) == 0) = true := by rw [beq_iff_eq] at hz ⊢; omega
          have HZ := Lib.hid hz; clear hz p4 p6 p9 hpw
          go_wp2
          go_ret2
          have e : ordV G (fst (fun k => powN N n k == 0) G) = .tuple #[.int .i64 ((k + 1 : Nat) : Int), .int .i64 0] := by rw [fst_at hlt2 H.out HZ.out]; exact if_pos hlt2
          rw [e]
          exact ⟨rfl, hb⟩
      · obtain rfl : k = G := by omega
        clear p4 p6 p9 hpw
        go_wp2
        go_ret2
        have e : ordV k (fst (fun k => powN N n k == 0) k) = .tuple #[.int .i64 0, .int .i64 5] := by rw [fst_none H.out]; exact if_neg (Nat.lt_irrefl _)
        rw [e]
        exact ⟨rfl, hb⟩
  · have hc' : (codeV (loopB G L T) G x != 0) = true := by simpa using hc
    rw [show rO (codeV (loopB G L T) G x) G (fst (fun k => powN (NT G T) x.toNat k == 0) G) = .tuple #[.int .i64 0, .int .i64 (codeV (loopB G L T) G x)] from if_neg hc]
    go_enter Try.func21, Try.ntmps21
    go_wp2_with fail
    refine Calls.makes' (sCode_c _ _ _ _ _ h _) _ fun w1 hb => ?_
    go_wp2
    go_ret2
    exact ⟨rfl, hb⟩

/-- A list and a code: where ok, a list in new memory and 0; else nil and 1. -/
structure ResI (w w' : World) (e : Ending) (ok : Bool) (n : Nat) (X : Nat → Int) : Prop where
  out : Below w.heap.size w w' ∧ ((ok = true ∧ ∃ g c, e = .returned (.tuple #[.slice (some ⟨g, 0, none⟩) n c, .int .i64 0]) ∧ w.heap.size ≤ g ∧ Own w' 2 g c n (fun i => .int .i64 (X i))) ∨ (ok = false ∧ e = .returned (.tuple #[.slice none 0 0, .int .i64 1])))

/-- x is in the nucleus -/
def nucX (G : Nat) (N : Nat → Nat → Nat) (x : Nat) : Bool := all2 G (fun y z => nucB N x y z)

set_option maxHeartbeats 1000000 in
theorem sNuc_c (v : Value) (G : Nat) (N : Nat → Nat → Nat) (w : World) (h : LT w v G N) :
    Calls Try.prog 57 #[v, .bool false] w fun e w' => CopyI w w' e (cnt (nucX G N) G) (fun i => sel (nucX G N) G i) := by
  have HLT := Lib.hid h
  obtain ⟨c, b, o, C, RB, RO, rfl, p2, p3, p4, p5, p6, p7, p8, p9⟩ := h.out
  clear p4 p5 p6 p9 h
  go_enter Try.func57, Try.ntmps57
  go_wp2
  go_loopg [6, 7] G (fun g s i wr => ∃ x : Nat, x ≤ G ∧ g = G - x ∧ i = .int .i64 x ∧ ∃ g' c', s = .slice (some ⟨g', 0, none⟩) (cnt (nucX G N) x) c' ∧ w.heap.size ≤ g' ∧ Below w.heap.size w wr ∧ Own wr 2 g' c' (cnt (nucX G N) x) (fun i => .int .i64 (sel (nucX G N) x i)))
  case atStart => exact ⟨0, Nat.zero_le _, rfl, rfl, _, _, rfl, Nat.le_refl _, (Below.refl _ _).alloc (Nat.le_refl _) _, Own.empty _ _ _⟩
  case round =>
    obtain ⟨x, hx, rfl, rfl, g', c', rfl, hg', hb, hO⟩ := hrel
    have hcx := cnt_le (nucX G N) x
    by_cases hlt : x < G
    · have H := Lib.hid (fun q => (HLT.out.below hb).drewN q)
      go_wp2
      obtain ⟨wo, hwo⟩ : ∃ wo, wo = wr := ⟨_, rfl⟩
      rw [← hwo] at H hb hO ⊢
      clear hwo
      go_loopg [8, 9] G (fun g s i wr => ∃ (y : Nat) (gd : Bool), y ≤ G ∧ g = G - y ∧ i = .int .i64 y ∧ s = .bool gd ∧ (∃ q, wr = wo.drewN q) ∧ (gd = true → ∀ y' z, y' < y → z < G → nucB N x y' z = true) ∧ (gd = false → ∃ y' z, y' < G ∧ z < G ∧ nucB N x y' z = false))
      case atStart => exact ⟨0, true, Nat.zero_le _, rfl, rfl, rfl, ⟨0, rfl⟩, fun _ y' z h => absurd h (Nat.not_lt_zero _), (fun h => by cases h)⟩
      case round =>
        obtain ⟨y, gd, hy, rfl, rfl, rfl, ⟨q, rfl⟩, h1, h2⟩ := hrel
        have H1 := Lib.hid h1
        have H2 := Lib.hid h2
        clear h1 h2
        by_cases hlt2 : y < G
        · cases gd
          · have Hn : Hid (nucX G N x = false) := by obtain ⟨y', z, hy', hz, e⟩ := H2.out (by trivial); exact all2_false hy' hz e
            have hn := Hn.out
            go_wp2
            go_roundg (G - (x + 1))
            case measure => omega
            case rel => exact ⟨x + 1, by omega, rfl, by go_num, g', c', by simp [cnt, hn], hg', Reads.below hb, ((hO.drewN _).shorter (by simp [cnt, hn])).congr fun i hi => by rw [sel_old (by simpa [cnt, hn] using hi)]⟩
          · go_wp2
            go_quiet (fail)
            go_wp2
            go_loopg [8, 10] G (fun g s i wr => ∃ (z : Nat) (gd : Bool), z ≤ G ∧ g = G - z ∧ i = .int .i64 z ∧ s = .bool gd ∧ (∃ q, wr = wo.drewN q) ∧ (gd = true → ∀ z', z' < z → nucB N x y z' = true) ∧ (gd = false → ∃ z', z' < G ∧ nucB N x y z' = false))
            case atStart => exact ⟨0, true, Nat.zero_le _, rfl, rfl, rfl, by first | exact ⟨_, rfl⟩ | exact ⟨_, World.drewN_drewN _ _ _⟩, fun _ z' h => absurd h (Nat.not_lt_zero _), (fun h => by cases h)⟩
            case round =>
              obtain ⟨z, gd, hz, rfl, rfl, rfl, ⟨q2, rfl⟩, h3, h4⟩ := hrel
              have H3 := Lib.hid h3
              have H4 := Lib.hid h4
              clear h3 h4
              by_cases hlt3 : z < G
              · cases gd
                · go_wp2
                  go_roundg (G - (y + 1))
                  case measure => omega
                  case rel => exact ⟨y + 1, false, by omega, rfl, by go_num, rfl, by first | exact ⟨_, rfl⟩ | exact ⟨_, World.drewN_drewN _ _ _⟩, (fun h => by cases h), fun _ => by obtain ⟨z', hz', e⟩ := H4.out (by trivial); exact ⟨y, z', hlt2, hz', e⟩⟩
                · cases a1 : assB N x y z
                  · have hn : Hid (nucB N x y z = false) := by unfold nucB; rw [a1]; rfl
                    go_wp2_with fail
                    refine Calls.reads' (wr := w) (sAss_c _ _ _ _ (H.out _) x y z hlt hlt2 hlt3) _ fun q5 => ?_
                    go_wp2
                    go_roundg (G - (z + 1))
                    case measure => omega
                    case rel => exact ⟨z + 1, false, by omega, rfl, by go_num, by simp [a1], by first | exact ⟨_, rfl⟩ | exact ⟨_, World.drewN_drewN _ _ _⟩, (fun h => by cases h), fun _ => ⟨z, hlt3, hn.out⟩⟩
                  · cases a2 : assB N y x z
                    · have hn : Hid (nucB N x y z = false) := by unfold nucB; rw [a1, a2]; rfl
                      go_wp2_with fail
                      refine Calls.reads' (wr := w) (sAss_c _ _ _ _ (H.out _) x y z hlt hlt2 hlt3) _ fun q5 => ?_
                      go_wp2_with fail
                      refine Calls.reads' (wr := w) (sAss_c _ _ _ _ (H.out _) y x z hlt2 hlt hlt3) _ fun q6 => ?_
                      go_wp2
                      go_roundg (G - (z + 1))
                      case measure => omega
                      case rel => exact ⟨z + 1, false, by omega, rfl, by go_num, by simp [a1, a2], by first | exact ⟨_, rfl⟩ | exact ⟨_, World.drewN_drewN _ _ _⟩, (fun h => by cases h), fun _ => ⟨z, hlt3, hn.out⟩⟩
                    · have hn : Hid (nucB N x y z = assB N y z x) := by unfold nucB; rw [a1, a2]; rfl
                      go_wp2_with fail
                      refine Calls.reads' (wr := w) (sAss_c _ _ _ _ (H.out _) x y z hlt hlt2 hlt3) _ fun q5 => ?_
                      go_wp2_with fail
                      refine Calls.reads' (wr := w) (sAss_c _ _ _ _ (H.out _) y x z hlt2 hlt hlt3) _ fun q6 => ?_
                      go_wp2_with fail
                      refine Calls.reads' (wr := w) (sAss_c _ _ _ _ (H.out _) y z x hlt2 hlt3 hlt) _ fun q7 => ?_
                      go_wp2
                      go_roundg (G - (z + 1))
                      case measure => omega
                      case rel => exact ⟨z + 1, assB N y z x, by omega, rfl, by go_num, by simp [a1, a2], by first | exact ⟨_, rfl⟩ | exact ⟨_, World.drewN_drewN _ _ _⟩, fun h z' hz' => by
                        by_cases e : z' = z
                        · subst e; rw [hn.out]; exact h
                        · exact H3.out (by trivial) z' (by omega), fun h => ⟨z, hlt3, by rw [hn.out]; exact h⟩⟩
              · obtain rfl : z = G := by omega
                go_wp2
                go_roundg (z - (y + 1))
                case measure => omega
                case rel => exact ⟨y + 1, gd, by omega, rfl, by go_num, rfl, by first | exact ⟨_, rfl⟩ | exact ⟨_, World.drewN_drewN _ _ _⟩, fun h y' z' hy' hz' => by
                  by_cases e : y' = y
                  · subst e; exact H3.out h z' hz'
                  · exact H1.out (by trivial) y' z' (by omega) hz', fun h => by obtain ⟨z', hz', e⟩ := H4.out h; exact ⟨y, z', hlt2, hz', e⟩⟩
        · obtain rfl : y = G := by omega
          have hOq := hO.drewN q
          cases gd
          · have Hn : Hid (nucX y N x = false) := by obtain ⟨y', z, hy', hz, e⟩ := H2.out (by trivial); exact all2_false hy' hz e
            have hn := Hn.out
            go_wp2
            go_roundg (y - (x + 1))
            case measure => omega
            case rel => exact ⟨x + 1, by omega, rfl, by go_num, g', c', by simp [cnt, hn], hg', Reads.below hb, (hOq.shorter (by simp [cnt, hn])).congr fun i hi => by rw [sel_old (by simpa [cnt, hn] using hi)]⟩
          · have Hn : Hid (nucX y N x = true) := all2_true (H1.out (by trivial))
            have hn := Hn.out
            go_wp2_with (at_builtin; refine wpList_push _ rfl _ _ _ _ elI rfl hOq (.int .i64 x) rfl ?_ rfl (by omega) (by omega) ?_; rotate_right; intro g2 c2 w2 hO2 hg2 hgr2)
            have e : cnt (nucX y N) (x + 1) = cnt (nucX y N) x + 1 := by simp [cnt, hn]
            have hsz := hb.size
            have hlt4 := hO.lt
            go_roundg (y - (x + 1))
            case measure => omega
            case rel =>
              refine ⟨x + 1, by omega, rfl, by go_num, g2, c2, by rw [e], ?_, (Reads.below hb).grown hgr2 (by simpa using hsz) (fun k e => by injection e with e; omega), ?_⟩
              · rcases hg2 with h | h
                · omega
                · simp at h; omega
              · rw [e]
                refine hO2.congr fun i hi => ?_
                by_cases e2 : i = cnt (nucX y N) x
                · subst e2; rw [if_pos rfl, sel_new hn]
                · rw [if_neg e2, sel_old (by omega)]
    · obtain rfl : x = G := by omega
      go_wp2
      go_ret
      exact ⟨_, _, rfl, hg', hb, hO⟩

set_option maxHeartbeats 400000 in
theorem sNucleus_c (v : Value) (G : Nat) (L : Nat → Nat) (T : Nat → Nat → Int) (w : World) (h : Tab w v G L T) :
    Calls Try.prog 31 #[v] w fun e w' => ResI w w' e (loopB G L T) (cnt (nucX G (NT G T)) G) (fun i => sel (nucX G (NT G T)) G i) := by
  cases hl : loopB G L T
  · go_enter Try.func31, Try.ntmps31
    go_wp2_with fail
    refine Calls.makes' (sIs_c _ _ _ _ _ h) _ fun w1 hb => ?_
    rw [hl]
    go_wp2
    go_ret2
    exact ⟨hb, .inr ⟨rfl, rfl⟩⟩
  · have hlt := h.lt (loopB_ok hl)
    go_enter Try.func31, Try.ntmps31
    go_wp2_with fail
    refine Calls.makes' (sIs_c _ _ _ _ _ h) _ fun w1 hb => ?_
    rw [hl]
    go_wp2_with fail
    refine (sNuc_c _ _ _ _ (hlt.below hb)).mono ?_
    rintro e w' ⟨g, c, rfl, hg, hb2, hO⟩
    have hs := hb.size
    go_wp2
    go_ret2
    exact ⟨hb.trans (hb2.mono hs), .inl ⟨rfl, g, c, rfl, by omega, hO⟩⟩

end Go.Proofs.Ytejjefjpjaeljaa
