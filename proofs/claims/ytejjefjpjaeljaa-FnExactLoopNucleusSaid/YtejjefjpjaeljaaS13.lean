/-
  What the reference's functions on loops compute. No condition beside sizes.
-/
import Derived.Test.YtejjefjpjaeljaaLM
import Derived.Test.YtejjefjpjaeljaaQ13
import Derived.Deep.DeepCutAuto
import Derived.Deep.OwnRows
import Derived.BigRegion
set_option linter.unusedVariables false
set_option linter.unusedSimpArgs false
namespace Go.Proofs.Ytejjefjpjaeljaa
open Go.RowKit

theorem elB : Elem Try.prog 51 4 (.bool false) 1 := ⟨Try.underlying51, by kernel_rfl, rfl⟩

theorem sIn_c (n low high : Int) (w : World) : Calls Try.prog 59 #[.int .i64 n, .int .i64 low, .int .i64 high] w fun e w' => e = .returned (.bool (inB n low high)) ∧ w = w' := by
  by_cases h : low ≤ n
  · by_cases h2 : n ≤ high
    · go_enter Try.func59, Try.ntmps59
      go_wp2
      go_ret
      exact ⟨ret_bool (by simp [inB, h, h2]), rfl⟩
    · go_enter Try.func59, Try.ntmps59
      go_wp2
      go_ret
      exact ⟨ret_bool (by simp [inB, h2]), rfl⟩
  · go_enter Try.func59, Try.ntmps59
    go_wp2
    go_ret
    exact ⟨ret_bool (by unfold inB; exact (decide_eq_false (by omega)).symm), rfl⟩

/-- A call that makes memory and turns none. -/
structure Makes (w w' : World) (e : Ending) (v : Value) : Prop where
  out : e = .returned v ∧ Below w.heap.size w w'

set_option maxRecDepth 100000 in
set_option maxHeartbeats 1000000 in
theorem sIs_c (v : Value) (G : Nat) (L : Nat → Nat) (T : Nat → Nat → Int) (w : World) (h : Tab w v G L T) :
    Calls Try.prog 38 #[v] w fun e w' => Makes w w' e (.bool (loopB G L T)) := by
  obtain ⟨ao, c, b, o, A, C, RB, RO, rfl, p2, p3, p4, p5, p6, p7, p8⟩ := h.out
  clear h
  by_cases hb : 1 ≤ G ∧ G ≤ 128
  · obtain ⟨hg1, hg2⟩ := hb
    have hin : inB (G : Int) 1 128 = true := by simp [inB]; omega
    obtain rfl := p4 (by omega)
    have P6 := Lib.hid p6
    have P7 := Lib.hid p7
    have P8 := Lib.hid p8
    clear p4 p6 p7 p8
    go_enter Try.func38, Try.ntmps38
    go_wp2_with (go_at_call 59; refine (sIn_c _ _ _ _).mono ?_; rintro e w' ⟨rfl, rfl⟩)
    go_loopg [4] G (fun g i wr => w = wr ∧ ∃ k : Nat, k ≤ G ∧ g = G - k ∧ i = .int .i64 k ∧ ∀ j, j < k → L j = G)
    case atStart => exact ⟨rfl, 0, Nat.zero_le _, rfl, rfl, fun j hj => absurd hj (Nat.not_lt_zero _)⟩
    case round =>
      obtain ⟨rfl, k, hk, rfl, rfl, hl⟩ := hrel
      have HL := Lib.hid hl; clear hl
      by_cases hlt : k < G
      · by_cases hk2 : L k = G
        · have hc := p5 k hlt
          rw [hk2] at hc
          clear p5
          go_wp2
          go_roundg (G - (k + 1))
          case measure => omega
          case rel => exact ⟨rfl, k + 1, by omega, rfl, by go_num, fun j hj => by
            by_cases e : j = k
            · subst e; exact hk2
            · exact HL.out j (by omega)⟩
        · have hd : ((L k : Int) != (G : Int)) = true := by rw [bne_iff_ne]; omega
          have hC := P6.out k hlt
          go_wp2
          go_ret
          exact ⟨ret_bool (loopB_false fun h => hk2 (h.len k hlt)).symm, Below.refl _ _⟩
      · obtain rfl : k = G := by omega
        go_wp2
        have HT := Lib.hid (show ∀ i, i < k → Ints w (.slice (A i) (L i) (C i)) (L i) (T i) from fun i hi => Tab.rowAt P6.out P7.out P8.out hi)
        go_loopg [5] k (fun g i wr => ∃ x : Nat, x ≤ k ∧ g = k - x ∧ i = .int .i64 x ∧ Below w.heap.size w wr ∧ ∀ j : Nat, j < x → LineOk k T j k ∧ T 0 j = j ∧ T j 0 = j)
        case atStart => exact ⟨0, Nat.zero_le _, rfl, rfl, Below.refl _ _, fun j hj => absurd hj (Nat.not_lt_zero _)⟩
        case round =>
          obtain ⟨x, hx, rfl, rfl, hb, hl⟩ := hrel
          have HX := Lib.hid hl; clear hl
          by_cases hlt2 : x < k
          · go_wp2
            go_upto_region 12 with (fail)
            go_cut [6, 7] (fun s6 s7 wx => ∃ gr gc : Nat, s6 = .slice (some ⟨gr, 0, none⟩) k k ∧ s7 = .slice (some ⟨gc, 0, none⟩) k k ∧ Below wr.heap.size wr wx ∧ Own wx 4 gr k k (fun _ => .bool false) ∧ Own wx 4 gc k k (fun _ => .bool false) ∧ wr.heap.size ≤ gr ∧ wr.heap.size ≤ gc ∧ gr ≠ gc)
            case first =>
              have hmk := run_make_row' (P := Try.prog) 51 4 (.bool false) 1 Try.underlying51 elB.info rfl .i64 .i64 k (by omega) (by omega)
              go_region
              all_goals go_wp2
              all_goals go_meet
              all_goals first
                | exact ⟨wr.heap.size, wr.heap.size + 1, rfl, rfl, (((Below.refl _ _).alloc (Nat.le_refl _) _).alloc (by simp) _).drew, ((Own.made _ _ _ _ (by omega)).alloc _).drew, (Own.made2 _ _ _ _ _ (by omega)).drew, by omega, by omega, by omega⟩
                | exact ⟨wr.heap.size + 1, wr.heap.size, rfl, rfl, (((Below.refl _ _).alloc (Nat.le_refl _) _).alloc (by simp) _).drew, (Own.made2 _ _ _ _ _ (by omega)).drew, ((Own.made _ _ _ _ (by omega)).alloc _).drew, by omega, by omega, by omega⟩
            case rest =>
              obtain ⟨gr, gc, rfl, rfl, hbc, hO1, hO2, hg1', hg2', hne⟩ := hcut
              have hbs := hb.size
              have hb2 := hb.trans (hbc.mono hbs)
              go_wp2
              go_loopg [8] k (fun g i wi => ∃ y : Nat, y ≤ k ∧ g = k - y ∧ i = .int .i64 y ∧ Below w.heap.size w wi ∧ Own wi 4 gr k k (fun i => .bool (seen (T x) y i)) ∧ Own wi 4 gc k k (fun i => .bool (seen (fun j => T j x) y i)) ∧ LineOk k T x y)
              case atStart => exact ⟨0, Nat.zero_le _, rfl, rfl, hb2, hO1, hO2, LineOk.zero _ _ _⟩
              case round =>
                obtain ⟨y, hy, rfl, rfl, hbi, hR, hC, hline⟩ := hrel
                clear hO1 hO2 hb hbc hb2
                have HLine := Lib.hid hline; clear hline
                by_cases hlt3 : y < k
                · have e1 : wr.cell? ⟨b, o + x, none⟩ = some (.slice (some ⟨RB x, RO x, none⟩) k (C x)) := by
                    rw [hbi.cell (p := ⟨b, o + x, none⟩) (lt_of_cell (p5 x hlt2)), p5 x hlt2, P7.out x hlt2 (by rw [HL.out x hlt2]; omega), HL.out x hlt2]
                  have e2 : wr.cell? ⟨RB x, RO x + y, none⟩ = some (.int .i64 (T x y)) := by
                    have h := P8.out x y hlt2 (by rw [HL.out x hlt2]; omega)
                    rw [hbi.cell (p := ⟨RB x, RO x + y, none⟩) (lt_of_cell h), h]
                  have e3 : wr.cell? ⟨b, o + y, none⟩ = some (.slice (some ⟨RB y, RO y, none⟩) k (C y)) := by
                    rw [hbi.cell (p := ⟨b, o + y, none⟩) (lt_of_cell (p5 y hlt3)), p5 y hlt3, P7.out y hlt3 (by rw [HL.out y hlt3]; omega), HL.out y hlt3]
                  have e4 : wr.cell? ⟨RB y, RO y + x, none⟩ = some (.int .i64 (T y x)) := by
                    have h := P8.out y x hlt3 (by rw [HL.out y hlt3]; omega)
                    rw [hbi.cell (p := ⟨RB y, RO y + x, none⟩) (lt_of_cell h), h]
                  have hbo : b < w.heap.size := lt_of_cell (p5 x hlt2)
                  have hbx : RB x < w.heap.size := lt_of_cell (P8.out x y hlt2 (by rw [HL.out x hlt2]; omega))
                  have hby : RB y < w.heap.size := lt_of_cell (P8.out y x hlt3 (by rw [HL.out y hlt3]; omega))
                  clear p5
                  by_cases c1 : 0 ≤ T x y ∧ T x y < k
                  · by_cases c2 : 0 ≤ T y x ∧ T y x < k
                    · obtain ⟨p, hp⟩ : ∃ p : Nat, T x y = p := ⟨(T x y).toNat, by omega⟩
                      obtain ⟨q, hq⟩ : ∃ q : Nat, T y x = q := ⟨(T y x).toNat, by omega⟩
                      rw [hp] at e2 c1
                      rw [hq] at e4 c2
                      have hpk : p < k := by omega
                      have hqk : q < k := by omega
                      have t1 : inB (p : Int) 0 ((k : Int) - 1) = true := by unfold inB; exact decide_eq_true (by omega)
                      have t2 : inB (q : Int) 0 ((k : Int) - 1) = true := by unfold inB; exact decide_eq_true (by omega)
                      have Hp := Lib.hid hp
                      have Hq := Lib.hid hq
                      clear hp hq
                      have f1 := hR.cell hpk
                      have f2 := hC.cell hqk
                      cases c3 : seen (T x) y p
                      · rw [c3] at f1
                        cases c4 : seen (fun j => T j x) y q
                        · rw [c4] at f2
                          have f3 := hR.frozen p
                          have hd1 : b ≠ gr := by omega
                          have hd2 : RB x ≠ gr := by omega
                          have hd3 : RB y ≠ gr := by omega
                          have e3' := fun u => Own.kept_cell e3 hd1 p (u := u)
                          have e4' := fun u => Own.kept_cell e4 hd3 p (u := u)
                          have f4 : ∀ u, ∃ v, (wr.setCell ⟨gr, p, none⟩ u).cell? ⟨gc, q, none⟩ = some v := fun u => ⟨_, Own.kept_cell f2 (Ne.symm hne) p⟩
                          have f5 : ∀ u, (wr.setCell ⟨gr, p, none⟩ u).frozen? ⟨gc, q, none⟩ = false := fun u => ((hC.setOther (a := ⟨gr, p, none⟩) (Ne.symm hne) u)).frozen q
                          obtain ⟨v4, f4'⟩ := f4 (.bool true)
                          have f5' := f5 (.bool true)
                          clear f4 f5
                          go_wp2_with (go_at_call 59; refine (sIn_c _ _ _ _).mono ?_; rintro e w' ⟨rfl, rfl⟩)
                          go_roundg (k - (y + 1))
                          case measure => omega
                          case rel =>
                            refine ⟨y + 1, by omega, rfl, by go_num, (hbi.setCell (show w.heap.size ≤ gr by omega) _).setCell (show w.heap.size ≤ gc by omega) _, ((hR.set p _).setOther (a := ⟨gc, q, none⟩) hne _).congr fun i _ => ?_, ((hC.setOther (a := ⟨gr, p, none⟩) (Ne.symm hne) _).set q _).congr fun i _ => ?_, HLine.out.succ (by rw [Hp.out]; omega) (by rw [Hq.out]; omega) (by rw [Hp.out]; exact seen_false c3) (by rw [Hq.out]; exact seen_false c4)⟩
                            · rw [seen_succ, Hp.out]
                              by_cases e : i = p
                              · subst e; simp
                              · rw [if_neg e, if_neg (by omega)]
                            · rw [seen_succ, Hq.out]
                              by_cases e : i = q
                              · subst e; simp
                              · rw [if_neg e, if_neg (by omega)]
                        · rw [c4] at f2
                          go_wp2_with (go_at_call 59; refine (sIn_c _ _ _ _).mono ?_; rintro e w' ⟨rfl, rfl⟩)
                          go_ret
                          exact ⟨ret_bool (loopB_false fun h => by
                            obtain ⟨j, hj, e⟩ := (seen_iff _ _ _).1 c4
                            exact h.col x j y hlt2 hj hlt3 (e.trans Hq.out.symm)).symm, hbi⟩
                      · rw [c3] at f1
                        go_wp2_with (go_at_call 59; refine (sIn_c _ _ _ _).mono ?_; rintro e w' ⟨rfl, rfl⟩)
                        go_ret
                        exact ⟨ret_bool (loopB_false fun h => by
                          obtain ⟨j, hj, e⟩ := (seen_iff _ _ _).1 c3
                          exact h.row x j y hlt2 hj hlt3 (e.trans Hp.out.symm)).symm, hbi⟩
                    · have t1 : inB (T x y) 0 ((k : Int) - 1) = true := by unfold inB; exact decide_eq_true (by omega)
                      have t2 : inB (T y x) 0 ((k : Int) - 1) = false := by unfold inB; exact decide_eq_false (by omega)
                      have C2 := Lib.hid c2
                      clear c1 c2
                      go_wp2_with (go_at_call 59; refine (sIn_c _ _ _ _).mono ?_; rintro e w' ⟨rfl, rfl⟩)
                      go_ret
                      exact ⟨ret_bool (loopB_false fun h => C2.out (h.range y x hlt3 hlt2)).symm, hbi⟩
                  · have t1 : inB (T x y) 0 ((k : Int) - 1) = false := by unfold inB; exact decide_eq_false (by omega)
                    have C1 := Lib.hid c1
                    clear c1
                    go_wp2_with (go_at_call 59; refine (sIn_c _ _ _ _).mono ?_; rintro e w' ⟨rfl, rfl⟩)
                    go_ret
                    exact ⟨ret_bool (loopB_false fun h => C1.out (h.range x y hlt2 hlt3)).symm, hbi⟩
                · obtain rfl : y = k := by omega
                  have e0 : wr.cell? ⟨b, o, none⟩ = some (.slice (some ⟨RB 0, RO 0, none⟩) y (C 0)) := by
                    have h := p5 0 (by omega)
                    rw [hbi.cell (p := ⟨b, o, none⟩) (lt_of_cell (p5 x hlt2)), show o = o + 0 from rfl, h, P7.out 0 (by omega) (by rw [HL.out 0 (by omega)]; omega), HL.out 0 (by omega)]
                  have e1 : wr.cell? ⟨b, o + x, none⟩ = some (.slice (some ⟨RB x, RO x, none⟩) y (C x)) := by
                    rw [hbi.cell (p := ⟨b, o + x, none⟩) (lt_of_cell (p5 x hlt2)), p5 x hlt2, P7.out x hlt2 (by rw [HL.out x hlt2]; omega), HL.out x hlt2]
                  have e2 : wr.cell? ⟨RB 0, RO 0 + x, none⟩ = some (.int .i64 (T 0 x)) := by
                    have h := P8.out 0 x (by omega) (by rw [HL.out 0 (by omega)]; omega)
                    rw [hbi.cell (p := ⟨RB 0, RO 0 + x, none⟩) (lt_of_cell h), h]
                  have e3 : wr.cell? ⟨RB x, RO x, none⟩ = some (.int .i64 (T x 0)) := by
                    have h := P8.out x 0 hlt2 (by rw [HL.out x hlt2]; omega)
                    rw [show RO x = RO x + 0 from rfl, hbi.cell (p := ⟨RB x, RO x + 0, none⟩) (lt_of_cell h), h]
                  clear p5 hR hC
                  by_cases c1 : T 0 x = x
                  · have t1 : (T 0 x != (x : Int)) = false := by rw [c1]; simp
                    have C1 := Lib.hid c1
                    clear c1
                    by_cases c2 : T x 0 = x
                    · have t2 : (T x 0 != (x : Int)) = false := by rw [c2]; simp
                      have C2 := Lib.hid c2
                      clear c2
                      go_wp2
                      go_roundg (y - (x + 1))
                      case measure => omega
                      case rel =>
                        refine ⟨x + 1, by omega, rfl, by go_num, hbi, fun j hj => ?_⟩
                        by_cases e : j = x
                        · subst e; exact ⟨HLine.out, C1.out, C2.out⟩
                        · exact HX.out j (by omega)
                    · have t2 : (T x 0 != (x : Int)) = true := by rw [bne_iff_ne]; exact c2
                      go_wp2
                      go_ret
                      exact ⟨ret_bool (loopB_false fun h => c2 (h.unit x hlt2).2).symm, hbi⟩
                  · have t1 : (T 0 x != (x : Int)) = true := by rw [bne_iff_ne]; exact c1
                    go_wp2
                    go_ret
                    exact ⟨ret_bool (loopB_false fun h => c1 (h.unit x hlt2).1).symm, hbi⟩
          · obtain rfl : x = k := by omega
            go_wp2
            go_ret
            exact ⟨ret_bool (loopB_true (LoopOk.of_lines hg1 hg2 HL.out HX.out)).symm, hb⟩
  · have hin : inB (G : Int) 1 128 = false := by simp [inB]; omega
    go_enter Try.func38, Try.ntmps38
    go_wp2_with (go_at_call 59; refine (sIn_c _ _ _ _).mono ?_; rintro e w' ⟨rfl, rfl⟩)
    go_ret
    exact ⟨ret_bool (loopB_false fun h => hb ⟨h.pos, h.max⟩).symm, Below.refl _ _⟩

end Go.Proofs.Ytejjefjpjaeljaa
