/-
  Spaces: how many vectors, copies of a vector, and the next vector of the reference. No condition beside sizes.
-/
import Derived.Test.YtnkflgigbielgaaSP3
import Derived.Test.YtnkflgigbielgaaQV
import Derived.Test.YtnkflgigbielgaaD40
import Derived.Lib.BufferMore
set_option linter.unusedVariables false
set_option linter.unusedSimpArgs false
namespace Go.Proofs.Ytnkflgigbielgaa
open Go.RowKit

theorem pow_sm {p : Int} (h1 : 3 ≤ p) (h2 : p ≤ 13) {k : Nat} (hk : k ≤ 6) : 1 ≤ p ^ k ∧ p ^ k ≤ 4826809 := by
  obtain ⟨q, rfl⟩ := Int.eq_ofNat_of_zero_le (show 0 ≤ p by omega)
  have a1 : q ^ k ≤ 13 ^ k := Nat.pow_le_pow_left (by omega) k
  have a2 : 13 ^ k ≤ 13 ^ 6 := Nat.pow_le_pow_right (by decide) hk
  have a3 : ((q ^ k : Nat) : Int) = (q : Int) ^ k := by simp
  have a4 : 0 < q ^ k := Nat.pow_pos (by omega)
  have a5 : 13 ^ 6 = 4826809 := by decide
  rw [← a3]; omega

set_option maxRecDepth 100000 in
set_option maxHeartbeats 400000 in
theorem iMany_c (p : Int) (sv : Value) (n : Nat) (s : Nat → Int) (w : World) (hd : SV w sv p n s) :
    Calls Try.prog 78 #[dbl p sv] w fun e w' => Makes w w' e (.bool (decide (5000 < p ^ n))) := by
  have hpb := hd.ok.bd
  have hn6 := hd.ok.n6
  obtain ⟨ao, c, b, o, rfl, p2, p3, qx⟩ := hd.ints.out
  clear qx hd
  obtain ⟨e0, e1, e2, e3⟩ := box0 w p ao n c 26
  have BX := Lib.hid (box0 w p ao n c 26)
  go_enter Try.func78, Try.ntmps78
  go_wp2
  go_loopg [3, 7] n (fun g u i wr => wr = w.alloc (.cells #[.int .i64 p, .slice ao n c] 26) ∧ ∃ k : Nat, k ≤ n ∧ g = n - k ∧ i = .int .i64 k ∧ u = .int .i64 (p ^ k))
  case atStart => exact ⟨rfl, 0, Nat.zero_le _, rfl, rfl, by simp⟩
  case round =>
    obtain ⟨rfl, k, hk, rfl, rfl, rfl⟩ := hrel
    by_cases hlt : k < n
    · have hb := pow_sm hpb.1 hpb.2 (k := k + 1) (by omega)
      have he : p ^ k * p = p ^ (k + 1) := (Int.pow_succ _ _).symm
      rw [← he] at hb
      have hw : IntKind.i64.wrap (p ^ k * p) = p ^ k * p := wrap_in _ (by omega)
      have HE := Lib.hid he
      clear he
      go_wp2
      go_roundg (n - (k + 1))
      case measure => omega
      case rel => exact ⟨rfl, k + 1, by omega, rfl, by go_num, by rw [HE.out]⟩
    · obtain rfl : k = n := by omega
      go_wp2
      go_ret
      exact ⟨rfl, BX.out.2.2.2⟩

set_option maxRecDepth 100000 in
set_option maxHeartbeats 400000 in
theorem sMany_c (p : Int) (sv : Value) (n : Nat) (s : Nat → Int) (w : World) (hd : SV w sv p n s) :
    Calls Try.prog 83 #[dbl p sv] w fun e w' => Makes w w' e (.bool (decide (5000 < p ^ n))) := by
  have hpb := hd.ok.bd
  have hn6 := hd.ok.n6
  obtain ⟨ao, c, b, o, rfl, p2, p3, qx⟩ := hd.ints.out
  clear qx hd
  obtain ⟨e0, e1, e2, e3⟩ := box0 w p ao n c 26
  have BX := Lib.hid (box0 w p ao n c 26)
  go_enter Try.func83, Try.ntmps83
  go_wp2
  go_loopg [3, 4] n (fun g u i wr => wr = w.alloc (.cells #[.int .i64 p, .slice ao n c] 26) ∧ ∃ k : Nat, k ≤ n ∧ g = n - k ∧ i = .int .i64 k ∧ u = .int .i64 (p ^ k))
  case atStart => exact ⟨rfl, 0, Nat.zero_le _, rfl, rfl, by simp⟩
  case round =>
    obtain ⟨rfl, k, hk, rfl, rfl, rfl⟩ := hrel
    by_cases hlt : k < n
    · have hb := pow_sm hpb.1 hpb.2 (k := k + 1) (by omega)
      have he : p ^ k * p = p ^ (k + 1) := (Int.pow_succ _ _).symm
      rw [← he] at hb
      have hw : IntKind.i64.wrap (p ^ k * p) = p ^ k * p := wrap_in _ (by omega)
      have HE := Lib.hid he
      clear he
      go_wp2
      go_roundg (n - (k + 1))
      case measure => omega
      case rel => exact ⟨rfl, k + 1, by omega, rfl, by go_num, by rw [HE.out]⟩
    · obtain rfl : k = n := by omega
      go_wp2
      go_ret
      exact ⟨rfl, BX.out.2.2.2⟩

/-- a copy of an owned list -/
theorem sOwn_c (g c n : Nat) (X : Nat → Int) (w : World) (h : Own w 2 g c n (fun i => .int .i64 (X i))) (hn : n ≤ 1048576) :
    Calls Try.prog 85 #[.slice (some ⟨g, 0, none⟩) n c] w fun e w' => CopyI w w' e n X := by
  have hle := h.le
  have ba : Below w.heap.size w (w.alloc (.cells #[] 2)) := (Below.refl _ _).alloc (Nat.le_refl _) _
  have hcells := (h.kept ba).cells0
  have hE : Own (w.alloc (.cells #[] 2)) 2 w.heap.size 0 0 (fun i => .int .i64 (X i)) := Own.empty _ _ _
  have BA := Lib.hid ba
  clear h ba
  go_enter Try.func85, Try.ntmps85
  go_wp2_with (at_builtin; refine wpList_app _ rfl _ _ _ _ elI rfl hE rfl g 0 n c _ rfl hcells (fun _ _ => rfl) (by omega) (by omega) ?_; intro g9 c9 w9 hO9 hg9 hgr9)
  have hs := BA.out.size
  go_ret
  rw [Nat.zero_add] at hO9
  exact ⟨g9, c9, rfl, by omega, BA.out.grown hgr9 hs (fun k e => by injection e with e; omega), hO9.congr fun i hi => by rw [if_neg (by omega), Nat.sub_zero]⟩

set_option maxRecDepth 100000 in
theorem iClone_c (g c n : Nat) (X : Nat → Int) (w : World) (h : Own w 2 g c n (fun i => .int .i64 (X i))) (hn : n ≤ 1048576) :
    Calls Try.prog 81 #[.slice (some ⟨g, 0, none⟩) n c] w fun e w' => CopyI w w' e n X := by
  have hle := h.le
  have ba : Below w.heap.size w (w.alloc (.cells #[] 2)) := (Below.refl _ _).alloc (Nat.le_refl _) _
  have hcells := (h.kept ba).cells0
  have hE : Own (w.alloc (.cells #[] 2)) 2 w.heap.size 0 0 (fun i => .int .i64 (X i)) := Own.empty _ _ _
  have BA := Lib.hid ba
  clear h ba
  have hnil : ∀ W : World, (binOp .eql 24 (.slice (some ⟨g, 0, none⟩) n c) (.slice none 0 0)).run Try.prog W = .ok (.bool false) W := fun W => Lib.run_eql_slice_some_nil W _ _ _ Try.underlying24
  go_enter Try.func81, Try.ntmps81
  go_wp2_with (at_builtin; refine wpList_app _ rfl _ _ _ _ elI rfl hE rfl g 0 n c _ rfl hcells (fun _ _ => rfl) (by omega) (by omega) ?_; intro g9 c9 w9 hO9 hg9 hgr9)
  have hs := BA.out.size
  go_ret
  rw [Nat.zero_add] at hO9
  exact ⟨g9, c9, rfl, by omega, BA.out.grown hgr9 hs (fun k e => by injection e with e; omega), hO9.congr fun i hi => by rw [if_neg (by omega), Nat.sub_zero]⟩

/-- the next vector, or none -/
structure NextV (w w' : World) (p : Int) (g n : Nat) (X : Nat → Int) (b : Bool) : Prop where
  chg : Chg w w' (· = g)
  out : ∃ X', Own w' 2 g n n (fun i => .int .i64 (X' i)) ∧ ((b = true ∧ InP p n X' ∧ valV p X' n = valV p X n + 1) ∨ (b = false ∧ valV p X n = p ^ n - 1))

set_option maxHeartbeats 1000000 in
theorem sNextV_c (p : Int) (g n : Nat) (X : Nat → Int) (w : World) (h : Own w 2 g n n (fun i => .int .i64 (X i))) (hX : InP p n X) (hn : n ≤ 1000) (h1 : 2 ≤ p) (h2 : p ≤ 1000) :
    Calls Try.prog 84 #[.int .i64 p, .slice (some ⟨g, 0, none⟩) n n] w fun e w' => ∃ b, e = .returned (.bool b) ∧ NextV w w' p g n X b := by
  have HX := Lib.hid hX
  have H := Lib.hid h
  clear h hX
  go_enter Try.func84, Try.ntmps84
  go_wp2
  go_loopg [5] n (fun gg i wr => ∃ r : Nat, r ≤ n ∧ r = gg ∧ i = .int .i64 ((r : Int) - 1) ∧ Chg w wr (· = g) ∧ Own wr 2 g n n (fun i => .int .i64 (clr r X i)) ∧ Hid (maxFrom p n r X))
  case atStart => exact ⟨n, Nat.le_refl _, rfl, rfl, Chg.refl _ _, H.out.congr fun i hi => by unfold clr; rw [if_neg (by omega)], fun i h1 h2 => absurd h2 (by omega)⟩
  case round =>
    obtain ⟨r, hr, rfl, rfl, hc, hO, hmx⟩ := hrel
    by_cases hlt : 0 < r
    · obtain ⟨i, rfl⟩ : ∃ i, r = i + 1 := ⟨r - 1, by omega⟩
      rw [show (((i + 1 : Nat) : Int) - 1) = (i : Int) by omega]
      have hxi := HX.out i (by omega)
      have y1 : wr.cell? ⟨g, i, none⟩ = some (.int .i64 (X i)) := by
        have h := hO.cell (show i < n by omega)
        rw [h]; unfold clr; rw [if_neg (by omega)]
      have y2 := hO.frozen i
      have hO1 := hO.set i (.int .i64 (X i + 1))
      have y3 : (wr.setCell ⟨g, i, none⟩ (.int .i64 (X i + 1))).cell? ⟨g, i, none⟩ = some (.int .i64 (X i + 1)) := by
        have h := hO1.cell (show i < n by omega)
        rw [h]; simp
      have y4 := hO1.frozen i
      have hc1 : Chg w (wr.setCell ⟨g, i, none⟩ (.int .i64 (X i + 1))) (· = g) := hc.setCell (a := ⟨g, i, none⟩) rfl _
      by_cases hmax : X i = p - 1
      · have hlt2 : decide (X i + 1 < p) = false := decide_eq_false (by omega)
        have HMX := Lib.hid hmax
        clear hmax
        have hO2 := hO1.set i (.int .i64 0)
        have HO2 := Lib.hid hO2
        have HC1 := Lib.hid hc1
        clear hO hO1 hO2 hc hc1
        go_wp2
        go_roundg i
        case measure => omega
        case rel => exact ⟨i, by omega, rfl, by go_num, HC1.out.setCell (a := ⟨g, i, none⟩) rfl _, HO2.out.congr fun j hj => by
            unfold clr
            by_cases e : j = i
            · subst e; simp
            · rw [if_neg e, if_neg e]
              by_cases e2 : i + 1 ≤ j
              · rw [if_pos e2, if_pos (by omega)]
              · rw [if_neg e2, if_neg (by omega)], fun j h1 h2 => by
            by_cases e : j = i
            · subst e; exact HMX.out
            · exact hmx.out j (by omega) h2⟩
      · have hlt2 : decide (X i + 1 < p) = true := decide_eq_true (by omega)
        have HO1 := Lib.hid hO1
        have HC1 := Lib.hid hc1
        clear hO hO1 hc hc1
        go_wp2
        go_ret
        refine ⟨true, rfl, HC1.out, inc i X, HO1.out.congr fun j hj => ?_, Or.inl ⟨rfl, inc_in (by omega) HX.out hmax, val_inc (by omega) hmx.out⟩⟩
        unfold clr inc
        by_cases e : j = i
        · subst e; simp
        · rw [if_neg e, if_neg e]
          by_cases e2 : i + 1 ≤ j
          · rw [if_pos e2, if_pos (by omega)]
          · rw [if_neg e2, if_neg (by omega)]
    · obtain rfl : r = 0 := by omega
      go_wp2
      go_ret
      exact ⟨false, rfl, hc, _, hO, Or.inr ⟨rfl, val_top hmx.out⟩⟩

end Go.Proofs.Ytnkflgigbielgaa
