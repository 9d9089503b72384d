/-
  Tables whose rows change places, copies of tables, multiples of a list. No condition beside sizes.
-/
import Derived.Test.YtnnacligfoonbaaQNJ
import Derived.Test.YtnnacligfoonbaaD24
import Derived.Test.YtnnacligfoonbaaD30
import Derived.Test.YtnnacligfoonbaaDW
import Derived.Lib.BufferMore
import Derived.Test.YtnnacligfoonbaaQJ
import Derived.Deep.DeepMust
set_option linter.unusedVariables false
set_option linter.unusedSimpArgs false
namespace Go.Proofs.Ytnnacligfoonbaa
open Go.RowKit

/-- a table of G rows of n numbers, its rows in blocks R -/
structure RT (w : World) (B g c G n : Nat) (R C : Nat → Nat) (T : Nat → Nat → Int) : Prop where
  own : Own w 24 g c G (fun i => .slice (some ⟨R i, 0, none⟩) n (C i))
  base : B ≤ g
  row : ∀ i, i < G → Own w 2 (R i) (C i) n (fun j => .int .i64 (T i j))
  rowB : ∀ i, i < G → B ≤ R i ∧ R i ≠ g
  dist : ∀ i j, i < G → j < G → i ≠ j → R i ≠ R j
theorem OTab.rt {w : World} {B g c G n : Nat} {T : Nat → Nat → Int} (h : OTab w B g c G (fun _ => n) T) : ∃ R C, RT w B g c G n R C T := by
  obtain ⟨R, C, h1, h2, h3, h4⟩ := h.out
  refine ⟨R, C, h1, h2, fun i hi => (h3 i hi).1, fun i hi => (h3 i hi).2, fun i j hi hj hne => ?_⟩
  by_cases e : j < i
  · exact h4 i j hi e
  · exact fun e2 => h4 j i hj (by omega) e2.symm
theorem RT.otab {w : World} {B g c G n : Nat} {R C : Nat → Nat} {T : Nat → Nat → Int} (h : RT w B g c G n R C T) : OTab w B g c G (fun _ => n) T :=
  ⟨R, C, h.own, h.base, fun i hi => ⟨h.row i hi, h.rowB i hi⟩, fun i j hi hj => h.dist i j hi (by omega) (by omega)⟩
theorem RT.kept {w w' : World} {B g c G n : Nat} {R C : Nat → Nat} {T : Nat → Nat → Int} (h : RT w B g c G n R C T) (hb : Below w.heap.size w w') : RT w' B g c G n R C T :=
  ⟨h.own.kept hb, h.base, fun i hi => (h.row i hi).kept hb, h.rowB, h.dist⟩
theorem RT.congr {w : World} {B g c G n : Nat} {R C : Nat → Nat} {T T' : Nat → Nat → Int} (h : RT w B g c G n R C T) (he : ∀ i j, i < G → j < n → T i j = T' i j) : RT w B g c G n R C T' :=
  ⟨h.own, h.base, fun i hi => (h.row i hi).congr fun j hj => by rw [he i j hi hj], h.rowB, h.dist⟩
theorem RT.shorter {w : World} {B g c G m n : Nat} {R C : Nat → Nat} {T : Nat → Nat → Int} (h : RT w B g c G n R C T) (hm : m ≤ G) : RT w B g c m n R C T :=
  ⟨h.own.shorter hm, h.base, fun i hi => h.row i (by omega), fun i hi => h.rowB i (by omega), fun i j hi hj => h.dist i j (by omega) (by omega)⟩
/-- a new row in the place of another -/
theorem RT.put {w w' : World} {B g c G n : Nat} {R C : Nat → Nat} {T : Nat → Nat → Int} (h : RT w B g c G n R C T) (hb : Below w.heap.size w w') (hB : B ≤ w.heap.size) {i r cr : Nat} {X : Nat → Int} (hi : i < G)
    (hr : Own w' 2 r cr n (fun j => .int .i64 (X j))) (hrB : w.heap.size ≤ r) : RT (w'.setCell ⟨g, i, none⟩ (.slice (some ⟨r, 0, none⟩) n cr)) B g c G n (put R i r) (put C i cr) (put T i X) := by
  have hgl := h.own.lt
  refine ⟨((h.own.kept hb).set i _).congr fun j hj => ?_, h.base, fun j hj => ?_, fun j hj => ?_, fun j k hj hk hne => ?_⟩
  · unfold Go.Proofs.Ytnnacligfoonbaa.put; by_cases e : j = i <;> simp [e]
  · unfold Go.Proofs.Ytnnacligfoonbaa.put
    by_cases e : j = i
    · simp only [if_pos e]; exact hr.setOther (by show r ≠ g; omega) _
    · simp only [if_neg e]; exact ((h.row j hj).kept hb).setOther (h.rowB j hj).2 _
  · unfold Go.Proofs.Ytnnacligfoonbaa.put
    by_cases e : j = i
    · simp only [if_pos e]; omega
    · simp only [if_neg e]; exact h.rowB j hj
  · have l1 := (h.row j hj).lt
    have l2 := (h.row k hk).lt
    unfold Go.Proofs.Ytnnacligfoonbaa.put
    by_cases e : j = i
    · rw [if_pos e, if_neg (show k ≠ i by omega)]; omega
    · rw [if_neg e]
      by_cases e2 : k = i
      · rw [if_pos e2]; omega
      · rw [if_neg e2]; exact h.dist j k hj hk hne
/-- two rows change places, and the first of them is a new row -/
theorem RT.swapV {w : World} {B g c G n : Nat} {R C : Nat → Nat} {T : Nat → Nat → Int} (h : RT w B g c G n R C T) {a b : Nat} (ha : a < G) (hb : b < G) {w' : World} (hc : Chg w w' (· = g))
    (hO : Own w' 24 g c G (fun i => .slice (some ⟨swp R a b i, 0, none⟩) n (swp C a b i))) : RT w' B g c G n (swp R a b) (swp C a b) (swp T a b) := by
  refine ⟨hO, h.base, fun j hj => ?_, fun j hj => ?_, fun j k hj hk hne => ?_⟩
  · have hq : ∀ q, q < G → Own w' 2 (R q) (C q) n (fun j => .int .i64 (T q j)) := fun q hq => hc.own (h.row q hq) (h.rowB q hq).2
    unfold swp
    split
    · exact hq b hb
    · split
      · exact hq a ha
      · exact hq j hj
  · unfold swp
    split
    · exact h.rowB b hb
    · split
      · exact h.rowB a ha
      · exact h.rowB j hj
  · unfold swp
    repeat' split
    all_goals first
      | omega
      | (apply h.dist <;> first | assumption | omega)
theorem RT.swap {w : World} {B g c G n : Nat} {R C : Nat → Nat} {T : Nat → Nat → Int} (h : RT w B g c G n R C T) {a b : Nat} (ha : a < G) (hb : b < G) :
    RT ((w.setCell ⟨g, a, none⟩ (.slice (some ⟨R b, 0, none⟩) n (C b))).setCell ⟨g, b, none⟩ (.slice (some ⟨R a, 0, none⟩) n (C a))) B g c G n (swp R a b) (swp C a b) (swp T a b) := by
  refine h.swapV ha hb (((Chg.refl w (· = g)).setCell (a := ⟨g, a, none⟩) rfl _).setCell (a := ⟨g, b, none⟩) rfl _) (((h.own.set a _).set b _).congr fun j hj => ?_)
  unfold swp
  by_cases e : j = b
  · subst e
    by_cases e2 : j = a <;> simp [e2]
  · rw [if_neg e]
    by_cases e2 : j = a
    · simp [e2]
    · simp [e, e2]
theorem RT.swap' {w : World} {B g c G n : Nat} {R C : Nat → Nat} {T : Nat → Nat → Int} (h : RT w B g c G n R C T) {a b : Nat} (ha : a < G) (hb : b < G) :
    RT ((w.setCell ⟨g, b, none⟩ (.slice (some ⟨R a, 0, none⟩) n (C a))).setCell ⟨g, a, none⟩ (.slice (some ⟨R b, 0, none⟩) n (C b))) B g c G n (swp R a b) (swp C a b) (swp T a b) := by
  refine h.swapV ha hb (((Chg.refl w (· = g)).setCell (a := ⟨g, b, none⟩) rfl _).setCell (a := ⟨g, a, none⟩) rfl _) (((h.own.set b _).set a _).congr fun j hj => ?_)
  unfold swp
  by_cases e : j = a
  · subst e; simp
  · rw [if_neg e]
    by_cases e2 : j = b
    · subst e2; simp [e]
    · simp [e, e2]

/-- a copy of a list that is not empty -/
theorem iCloneI_c (v : Value) (n : Nat) (X : Nat → Int) (w : World) (h : Ints w v n X) (h1 : 1 ≤ n) (hn : n ≤ 1048576) :
    Calls Try.prog 149 #[v] w fun e w' => CopyI w w' e n X := by
  obtain ⟨ao, c, b, o, rfl, p2, p3, p4, p5⟩ := h.out
  obtain rfl := p4 (by omega)
  have ba : Below w.heap.size w (w.alloc (.cells #[] 2)) := (Below.refl _ _).alloc (Nat.le_refl _) _
  have hcells : ∀ j, j < n → (w.alloc (.cells #[] 2)).cell? ⟨b, o + j, none⟩ = some (.int .i64 (X j)) := fun j hj => cellKp ba (p5 j hj)
  have hE : Own (w.alloc (.cells #[] 2)) 2 w.heap.size 0 0 (fun i => .int .i64 (X i)) := Own.empty _ _ _
  have BA := Lib.hid ba
  have HC := Lib.hid hcells
  clear h ba p5 hcells p4
  have hnil : ∀ W : World, (binOp .eql 24 (.slice (some ⟨b, o, none⟩) n c) (.slice none 0 0)).run Try.prog W = .ok (.bool false) W := fun W => Lib.run_eql_slice_some_nil W _ _ _ Try.underlying24
  go_enter Try.func149, Try.ntmps149
  go_wp2_with (at_builtin; refine wpList_app _ rfl _ _ _ _ elI rfl hE rfl b o n c _ rfl HC.out (fun _ _ => rfl) (by omega) (by omega) ?_; intro g9 c9 w9 hO9 hg9 hgr9)
  have hs := BA.out.size
  go_ret
  rw [Nat.zero_add] at hO9
  exact ⟨g9, c9, rfl, by omega, BA.out.grown hgr9 hs (fun k e => by injection e with e; omega), hO9.congr fun i hi => by rw [if_neg (by omega), Nat.sub_zero]⟩

theorem sOwnI_c (v : Value) (n : Nat) (X : Nat → Int) (w : World) (h : Ints w v n X) (h1 : 1 ≤ n) (hn : n ≤ 1048576) :
    Calls Try.prog 158 #[v] w fun e w' => CopyI w w' e n X := by
  obtain ⟨ao, c, b, o, rfl, p2, p3, p4, p5⟩ := h.out
  obtain rfl := p4 (by omega)
  have ba : Below w.heap.size w (w.alloc (.cells #[] 2)) := (Below.refl _ _).alloc (Nat.le_refl _) _
  have hcells : ∀ j, j < n → (w.alloc (.cells #[] 2)).cell? ⟨b, o + j, none⟩ = some (.int .i64 (X j)) := fun j hj => cellKp ba (p5 j hj)
  have hE : Own (w.alloc (.cells #[] 2)) 2 w.heap.size 0 0 (fun i => .int .i64 (X i)) := Own.empty _ _ _
  have BA := Lib.hid ba
  have HC := Lib.hid hcells
  clear h ba p5 hcells p4
  go_enter Try.func158, Try.ntmps158
  go_wp2_with (at_builtin; refine wpList_app _ rfl _ _ _ _ elI rfl hE rfl b o n c _ rfl HC.out (fun _ _ => rfl) (by omega) (by omega) ?_; intro g9 c9 w9 hO9 hg9 hgr9)
  have hs := BA.out.size
  go_ret
  rw [Nat.zero_add] at hO9
  exact ⟨g9, c9, rfl, by omega, BA.out.grown hgr9 hs (fun k e => by injection e with e; omega), hO9.congr fun i hi => by rw [if_neg (by omega), Nat.sub_zero]⟩

set_option maxRecDepth 100000 in
set_option maxHeartbeats 1000000 in
theorem iCloneRows_c (v : Value) (G n : Nat) (T : Nat → Nat → Int) (w : World) (h : Tab w v G (fun _ => n) T) (h1 : 1 ≤ n) (hn : n ≤ 1048576) (hG : G ≤ 1048576) :
    Calls Try.prog 116 #[v] w fun e w' => CopyT w w' e G (fun _ => n) T := by
  obtain ⟨ao, c, b, o, A, C, RB, RO, rfl, p2, p3, p4, p5, p6, p7, p8⟩ := h.out
  have HR : Hid (∀ i, i < G → Ints w (.slice (A i) n (C i)) n (T i)) := fun i hi => Tab.rowAt (L := fun _ => n) p6 p7 p8 hi
  have P5 := Lib.hid p5
  clear h p5 p6 p7 p8
  have ba : Below w.heap.size w (w.alloc (.cells #[] 24)) := (Below.refl _ _).alloc (Nat.le_refl _) _
  go_enter Try.func116, Try.ntmps116
  go_wp2
  go_loopg [3, 9] G (fun g o i wr => ∃ k : Nat, k ≤ G ∧ g = G - k ∧ i = .int .i64 k ∧ Below w.heap.size w wr ∧ ∃ g' c', o = .slice (some ⟨g', 0, none⟩) k c' ∧ OTab wr w.heap.size g' c' k (fun _ => n) T)
  case atStart => exact ⟨0, Nat.zero_le _, rfl, rfl, ba, _, _, rfl, (OTab.empty w).congr (fun i hi => absurd hi (Nat.not_lt_zero _)) (fun i j hi => absurd hi (Nat.not_lt_zero _))⟩
  case round =>
    obtain ⟨k, hk, rfl, rfl, hb, g', c', rfl, hT⟩ := hrel
    by_cases hlt : k < G
    · obtain rfl := p4 (by omega)
      have hl := lt_of_cell (P5.out k hlt)
      have y1 : wr.cell? ⟨b, o + k, none⟩ = some (.slice (A k) n (C k)) := by rw [hb.cell (p := ⟨b, o + k, none⟩) hl]; exact P5.out k hlt
      obtain ⟨V, hV, hpush⟩ := hT.pushAt hb.size
      have HP := Lib.hid hpush
      have hgB := hT.base
      clear hpush
      go_wp2_with (first
        | (go_at_call 149; refine (iCloneI_c _ n (T k) _ ((HR.out k hlt).below hb) h1 hn).mono ?_; rintro e w4 ⟨g4, c4, rfl, hg4, hb4, hO4⟩; have hV4 := hV.kept hb4)
        | (at_builtin; refine wpList_push _ rfl _ _ _ _ elR rfl hV4 (.slice (some ⟨g4, 0, none⟩) n c4) rfl rfl rfl (by omega) (by omega) ?_; intro g3 c3 w3 hO3 hg3 hgr3))
      go_roundg (G - (k + 1))
      case measure => omega
      case rel =>
        have hs := hb.size
        have hs4 := hb4.size
        exact ⟨k + 1, by omega, rfl, by go_num, (hb.trans (hb4.mono hs)).grown hgr3 (by omega) (fun q e => by injection e with e; omega), g3, c3, rfl, (HP.out _ _ _ _ _ _ _ _ hb4 hO4 hg4 hO3 hg3 hgr3).congr (fun i hi => by by_cases e : i = k <;> simp [e]) (fun i j hi hj => by by_cases e : i = k <;> simp [e])⟩
    · obtain rfl : k = G := by omega
      go_wp2
      go_ret
      exact ⟨g', c', rfl, hb, hT⟩

end Go.Proofs.Ytnnacligfoonbaa

/-
  The reduced basis, by the program. No condition beside sizes.
-/
set_option linter.unusedVariables false
set_option linter.unusedSimpArgs false
namespace Go.Proofs.Ytnnacligfoonbaa
open Go.RowKit

theorem CopyT.turn {w w' : World} {e : Ending} {G G' : Nat} {L : Nat → Nat} {T T' : Nat → Nat → Int} (h : CopyT w w' e G L T) (hG : G = G') (hT : ∀ i j, i < G → j < L i → T i j = T' i j) : CopyT w w' e G' L T' := by
  subst hG
  obtain ⟨g, c, h1, h2, h3⟩ := h
  exact ⟨g, c, h1, h2, h3.congr (fun _ _ => rfl) hT⟩
theorem OTab.short {w : World} {B g cap G m : Nat} {L : Nat → Nat} {T : Nat → Nat → Int} (h : OTab w B g cap G L T) (hm : m ≤ G) : OTab w B g cap m L T := by
  obtain ⟨R, C, h1, h2, h3, h4⟩ := h.out
  exact ⟨R, C, h1.shorter hm, h2, fun i hi => h3 i (by omega), fun i j hi hj => h4 i j (by omega) hj⟩
/-- what a column does, with what was found -/
theorem bSt_found {p : Int} {G k d i : Nat} {T S : Nat → Nat → Int} (hQ : bSt p G T k = (S, d)) (hi : fnd (fun r => S r k != 0) d (G - d) = i) (hG : i < G) : bSt p G T (k + 1) = (bStep.elimB p (swp S d i) d k, d + 1) := by
  show bStep p G k (bSt p G T k) = _
  rw [hQ]
  subst hi
  unfold bStep
  exact if_neg (by show ¬ fnd (fun r => S r k != 0) d (G - d) = G; omega)
theorem bSt_stay {p : Int} {G k d : Nat} {T S : Nat → Nat → Int} (hQ : bSt p G T k = (S, d)) (hi : fnd (fun r => S r k != 0) d (G - d) = G) : bSt p G T (k + 1) = (S, d) := by
  show bStep p G k (bSt p G T k) = _
  rw [hQ]
  unfold bStep
  exact if_pos hi
theorem bSt_zero {p : Int} {T : Nat → Nat → Int} : ∀ k, bSt p 0 T k = (T, 0)
  | 0 => rfl
  | k + 1 => bSt_stay (bSt_zero k) rfl

set_option maxRecDepth 100000 in
set_option maxHeartbeats 4000000 in
theorem iBasis_c (p : Int) (v : Value) (G n : Nat) (T : Nat → Nat → Int) (w : World) (h : Tab w v G (fun _ => n) T) (hn : 1 ≤ n ∧ n ≤ 1048576) (hG : G ≤ 1048576) (hp : 3 ≤ p ∧ p ≤ 13) (hT : RowsIn p G n T) :
    Calls Try.prog 115 #[.int .i64 p, v] w fun e w' => CopyT w w' e (bSt p G T n).2 (fun _ => n) (bSt p G T n).1 := by
  have HCl := Lib.hid (iCloneRows_c v G n T w h hn.1 (by omega) (by omega))
  have HBin := Lib.hid (bSt_in (p := p) (n := n) (by omega) hT)
  obtain ⟨D, hD⟩ : ∃ D, bSt p G T n = D := ⟨_, rfl⟩
  have HD := Lib.hid hD
  rw [hD]
  clear h hT hD
  go_enter Try.func115, Try.ntmps115
  go_wp2_with fail
  go_at_call 116
  refine HCl.out.mono ?_
  rintro e w1 ⟨gg, cc, rfl, hb1, hO1⟩
  obtain ⟨R0, C0, hR0⟩ := hO1.rt
  have HB1 := Lib.hid hb1
  have HR0 := Lib.hid hR0
  have hcc := hR0.own.le
  have hcm := hR0.own.max
  clear hO1 hR0 hb1
  go_wp2_with fail
  go_loopg [6, 7] n (fun g dn kk wr => ∃ k : Nat, k ≤ n ∧ g = n - k ∧ kk = .int .i64 k ∧ ∃ S d R C, Hid (bSt p G T k = (S, d)) ∧ dn = .int .i64 ((d : Nat) : Int) ∧ d ≤ G ∧ Hid (Below w.heap.size w wr) ∧ Hid (RT wr w.heap.size gg cc G n R C S))
  case atStart => exact ⟨0, Nat.zero_le _, rfl, rfl, T, 0, R0, C0, rfl, rfl, Nat.zero_le _, HB1.out, HR0.out⟩
  case round =>
    obtain ⟨k, hk, rfl, rfl, S, d, R, C, hQ, rfl, hdG, hb, hR⟩ := hrel
    obtain ⟨wo, rfl⟩ : ∃ wo, wo = wr := ⟨_, rfl⟩
    clear HB1 HR0 HCl
    have hI : Hid (RowsIn p G n S) := by have := (HBin.out k).1; rw [hQ.out] at this; exact this
    by_cases hG0 : G = 0
    · subst hG0
      have e := HD.out
      rw [bSt_zero] at e
      subst e
      obtain rfl : d = 0 := by omega
      go_wp2
      go_ret
      exact ⟨gg, cc, rfl, hb.out, (hR.out.otab.congr (fun _ _ => rfl) (fun i j hi => absurd hi (Nat.not_lt_zero _)))⟩
    · have hG1 : (0 : Int) < (G : Int) := by omega
      have z0 := hR.out.own.cell (show 0 < G by omega)
      by_cases hkn : k < n
      · by_cases hdl : d < G
        · go_wp2_with fail
          go_loopg [8] (G - d) (fun g q wq => wq = wo ∧ ∃ j : Nat, d ≤ j ∧ j ≤ G ∧ g = G - j ∧ q = .int .i64 j ∧ Hid (fnd (fun r => S r k != 0) d (G - d) = fnd (fun r => S r k != 0) j (G - j)))
          case atStart => exact ⟨rfl, d, Nat.le_refl _, by omega, rfl, rfl, rfl⟩
          case round =>
            obtain ⟨rfl, j, hdj, hj, rfl, rfl, hf⟩ := hrel
            by_cases hjn : j < G
            · obtain ⟨y, hy⟩ : ∃ y, S j k = y := ⟨_, rfl⟩
              have z1 := hR.out.own.cell hjn
              have z2 := (hR.out.row j hjn).cell hkn
              rw [hy] at z2
              have hyl := hI.out j hjn k hkn
              rw [hy] at hyl
              have HY := Lib.hid hy
              have i0 : (0 : Int) ≤ (k : Int) := by omega
              have i1 : (k : Int) < (n : Int) := by omega
              have r0 : (0 : Int) ≤ (j : Int) := by omega
              have r1 : (j : Int) < (G : Int) := by omega
              clear hy
              by_cases hy0 : y = 0
              · subst hy0
                go_wp2_with fail
                go_roundg (G - (j + 1))
                case measure => omega
                case rel => exact ⟨rfl, j + 1, by omega, by omega, rfl, by go_num, by rw [hf.out, fnd_no (by rw [HY.out]; rfl) (by omega)]; congr 1⟩
              · have hd0 : decide (y = 0) = false := decide_eq_false hy0
                have hk1 : Hid (bSt p G T (k + 1) = (bStep.elimB p (swp S d j) d k, d + 1)) := bSt_found hQ.out (by rw [hf.out, fnd_yes (by rw [HY.out]; simpa using hy0) (by omega)]) hjn
                have hjn1 : ((j : Int) == (G : Int)) = false := by simp; omega
                have s0 : (0 : Int) ≤ (d : Int) := by omega
                have s1 : (d : Int) < (G : Int) := by omega
                have z3 := hR.out.own.cell hdl
                have z4 := hR.out.own.frozen d
                have z5 := hR.out.own.frozen j
                have hgB := hR.out.base
                go_upto_region 10 with (fail)
                go_cut [] (fun wc => Hid (Below w.heap.size w wc) ∧ Hid (RT wc w.heap.size gg cc G n (swp R d j) (swp C d j) (swp S d j)))
                case first =>
                  by_cases hjd : j = d
                  all_goals (try subst hjd)
                  all_goals go_region_law (fail)
                  all_goals go_wp2
                  all_goals go_meet
                  all_goals refine ⟨((hb.out.setCell (p := ⟨gg, _, none⟩) hgB _).setCell (p := ⟨gg, _, none⟩) hgB _).drew, ?_⟩
                  all_goals first
                    | exact (hR.out.swap hdl hjn).kept (drewB _)
                    | exact (hR.out.swap' hdl hjn).kept (drewB _)
                case rest =>
                  obtain ⟨hb2, hR2⟩ := hcut
                  have hI2 := RowsIn.swp hI.out hdl hjn
                  have hy2 : swp S d j d k = y := by rw [swp_left]; exact HY.out
                  generalize swp S d j = U at hR2 hI2 hy2 hk1
                  generalize swp R d j = RU at hR2
                  generalize swp C d j = CU at hR2
                  have hI2 := Lib.hid hI2
                  have hR2i : Hid (Ints wc (.slice (some ⟨RU d, 0, none⟩) n (CU d)) n (U d)) := (hR2.out.row d hdl).ints
                  have z1 := hR2.out.own.cell hdl
                  have z2 := (hR2.out.row d hdl).cell hkn
                  rw [hy2] at z2
                  have HY2 := Lib.hid hy2
                  obtain ⟨u, hu⟩ : ∃ u, invM p y = u := ⟨_, rfl⟩
                  have hub : 0 ≤ u ∧ u < p := by rw [← hu]; exact powM_bd (by omega) _
                  have HInv : Hid (∀ W, Calls Try.prog 102 #[.int .i64 p, .int .i64 y] W fun e w' => e = .returned (.int .i64 u) ∧ W = w') := fun W => hu ▸ iInv_c p y W (by omega) (by omega) (by omega)
                  obtain ⟨V, hV⟩ : ∃ V : Nat → Int, (fun j => (U d j * invM p (U d k)) % p) = V := ⟨_, rfl⟩
                  have hVj : ∀ j, V j = (U d j * u) % p := fun j => by rw [← hV, hy2, hu]
                  have hEd : bStep.elimB p U d k d = V := by unfold bStep.elimB; rw [if_pos rfl]; exact hV
                  have hEr : ∀ r, r ≠ d → bStep.elimB p U d k r = elm p (U r) V (-U r k) := fun r hr => by unfold bStep.elimB; rw [if_neg hr, hV]
                  have hVin : Hid (InP p n V) := fun j _ => by rw [hVj]; exact mod_bd _ _ (by omega)
                  have HSc : Hid (∀ W, Below wc.heap.size wc W → Calls Try.prog 101 #[.int .i64 p, .slice (some ⟨RU d, 0, none⟩) n (CU d), .int .i64 u] W fun e w' => CopyI W w' e n V) := fun W hb => by
                    refine (iScaled_c p _ n (U d) u W (hR2i.out.below hb) (by omega) (by omega) (by omega) (fun i hi => by have := hI2.out d hdl i hi; omega) (by omega)).mono fun e w' h => ?_
                    obtain ⟨g, c, q1, q2, q3, q4⟩ := h
                    exact ⟨g, c, q1, q2, q3, q4.congr fun j hj => by rw [hVj]⟩
                  have HEd := Lib.hid hEd
                  have HEr := Lib.hid hEr
                  have hgB2 := hR2.out.base
                  have z5 := hR2.out.own.frozen d
                  have HE1 : Hid (∀ (w4 : World) (g4 c4 : Nat), Below wc.drew.heap.size wc.drew w4 → wc.drew.heap.size ≤ g4 → Own w4 2 g4 c4 n (fun j => .int .i64 (V j)) → ∃ R3 C3, Hid (Below w.heap.size w (w4.setCell ⟨gg, d, none⟩ (.slice (some ⟨g4, 0, none⟩) n c4))) ∧ Hid (RT (w4.setCell ⟨gg, d, none⟩ (.slice (some ⟨g4, 0, none⟩) n c4)) w.heap.size gg cc G n R3 C3 (put U d V))) := fun w4 g4 c4 hb4 hg4 hO4 => by
                    have bb : Below wc.heap.size wc w4 := (drewB _).trans hb4
                    exact ⟨_, _, (hb2.out.trans (bb.mono hb2.out.size)).setCell (p := ⟨gg, d, none⟩) hgB2 _, hR2.out.put bb hb2.out.size hdl hO4 hg4⟩
                  clear hu hV hVj hEd hEr hy2 z0 z3 z4 hb hR hQ hI hf HY
                  go_upto_region 11 with (fail)
                  go_cut [] (fun wc => ∃ R3 C3, Hid (Below w.heap.size w wc) ∧ Hid (RT wc w.heap.size gg cc G n R3 C3 (put U d V)))
                  case first =>
                    go_region_law (first
                      | (go_simp; go_at_call 102; refine (HInv.out _).mono ?_; rintro e w' ⟨rfl, rfl⟩)
                      | (go_simp; go_at_call 101; refine (HSc.out _ (drewB _)).mono ?_; rintro e w4 ⟨g4, c4, rfl, hg4, hb4, hO4⟩; have hO5 := hR2.out.own.kept ((drewB _).trans hb4); have z6 := hO5.frozen d; have z7 := hO5.cell hdl))
                    all_goals go_wp2
                    all_goals go_meet
                    all_goals exact HE1.out _ _ _ hb4 hg4 hO4
                  case rest =>
                    obtain ⟨R3, C3, hb3, hR3⟩ := hcut
                    clear hR2i HSc HInv HE1 z1 z2 z5
                    go_wp2_with fail
                    go_loopg [86] G (fun g q wq => ∃ r : Nat, r ≤ G ∧ g = G - r ∧ q = .int .i64 r ∧ ∃ R4 C4 T4, Hid (Below w.heap.size w wq) ∧ Hid (RT wq w.heap.size gg cc G n R4 C4 T4) ∧ Hid (∀ q j, q < G → j < n → T4 q j = if q < r ∨ q = d then bStep.elimB p U d k q j else U q j))
                    case atStart => exact ⟨0, Nat.zero_le _, rfl, rfl, R3, C3, _, hb3.out, hR3.out, fun q j _ _ => by
                      by_cases e : q = d
                      · subst e; rw [put_self, if_pos (Or.inr rfl), HEd.out]
                      · rw [put_other _ _ e, if_neg (by omega)]⟩
                    case round =>
                      obtain ⟨r, hrG, rfl, rfl, R4, C4, T4, hb4, hR4, hT4⟩ := hrel
                      clear hb2 hR2 hb3 hR3
                      by_cases hrl : r < G
                      · by_cases hrd : r = d
                        · subst hrd
                          have hne : ((r : Int) != (r : Int)) = false := by simp
                          go_wp2_with fail
                          go_roundg (G - (r + 1))
                          case measure => omega
                          case rel => exact ⟨r + 1, by omega, rfl, by go_num, R4, C4, T4, hb4.out, hR4.out, fun q j hq hj => by
                            rw [hT4.out q j hq hj]
                            by_cases e : q < r ∨ q = r
                            · rw [if_pos e, if_pos (by omega)]
                            · rw [if_neg e, if_neg (by omega)]⟩
                        · have hne : ((r : Int) != (d : Int)) = true := by simp; omega
                          have e3 : ∀ j, j < n → T4 r j = U r j := fun j hj => by rw [hT4.out r j hrl hj, if_neg (by omega)]
                          have e4 : ∀ j, j < n → T4 d j = V j := fun j hj => by rw [hT4.out d j hdl hj, if_pos (Or.inr rfl), HEd.out]
                          have z1 := hR4.out.own.cell hdl
                          have z2 := hR4.out.own.cell hrl
                          have z4 := (hR4.out.row r hrl).cell hkn
                          obtain ⟨a, ha⟩ : ∃ a, U r k = a := ⟨_, rfl⟩
                          have hab := hI2.out r hrl k hkn
                          rw [e3 k hkn, ha] at z4
                          rw [ha] at hab
                          have t2 : (0 : Int) ≤ (r : Int) := by omega
                          have t3 : (r : Int) < (G : Int) := by omega
                          by_cases ha0 : a = 0
                          · subst ha0
                            have HA := Lib.hid ha
                            clear ha
                            go_wp2_with fail
                            go_roundg (G - (r + 1))
                            case measure => omega
                            case rel => exact ⟨r + 1, by omega, rfl, by go_num, R4, C4, T4, hb4.out, hR4.out, fun q j hq hj => by
                              rw [hT4.out q j hq hj]
                              by_cases e : q < r ∨ q = d
                              · rw [if_pos e, if_pos (by omega)]
                              · rw [if_neg e]
                                by_cases e2 : q = r
                                · subst e2; rw [if_pos (by omega), HEr.out q hrd, HA.out, elm_zero (hI2.out q hrl) hj]
                                · rw [if_neg (by omega)]⟩
                          · have ha1 : decide (a = 0) = false := decide_eq_false ha0
                            have y0 : Hid (Ints wr (.slice (some ⟨R4 r, 0, none⟩) n (C4 r)) n (U r)) := (hR4.out.row r hrl).ints.congr e3
                            have y1 : Hid (Ints wr (.slice (some ⟨R4 d, 0, none⟩) n (C4 d)) n V) := (hR4.out.row d hdl).ints.congr e4
                            have hw2 : IntKind.i64.wrap (-a) = -a := wrap_in _ (by omega)
                            have z5 := hR4.out.own.frozen r
                            have HA := Lib.hid ha
                            have HPl : Hid (∀ W, Below wr.heap.size wr W → Calls Try.prog 110 #[.int .i64 p, .slice (some ⟨R4 r, 0, none⟩) n (C4 r), .slice (some ⟨R4 d, 0, none⟩) n (C4 d), .int .i64 (-a)] W fun e w' => CopyI W w' e n (bStep.elimB p U d k r)) := fun W hb => by
                              have h := iPlus_c p _ _ n n (U r) V (-a) W (y0.out.below hb) (y1.out.below hb) (Nat.le_refl _) (by omega) (by omega) (by omega) (fun i hi => by have := hI2.out r hrl i hi; omega) (fun i hi => by have := hVin.out i hi; omega) (by omega)
                              refine h.mono fun e w' h => ?_
                              obtain ⟨g, c, q1, q2, q3, q4⟩ := h
                              exact ⟨g, c, q1, q2, q3, q4.congr fun j hj => by rw [HEr.out r hrd, HA.out]; rfl⟩
                            have hgB := hR4.out.base
                            have HEnd : Hid (∀ (w4 : World) (g4 c4 : Nat), Below wr.drew.heap.size wr.drew w4 → wr.drew.heap.size ≤ g4 → Own w4 2 g4 c4 n (fun j => .int .i64 (bStep.elimB p U d k r j)) → ∃ R3 C3 T3, Hid (Below w.heap.size w (w4.setCell ⟨gg, r, none⟩ (.slice (some ⟨g4, 0, none⟩) n c4))) ∧ Hid (RT (w4.setCell ⟨gg, r, none⟩ (.slice (some ⟨g4, 0, none⟩) n c4)) w.heap.size gg cc G n R3 C3 T3) ∧ Hid (∀ q j, q < G → j < n → T3 q j = if q < r + 1 ∨ q = d then bStep.elimB p U d k q j else U q j)) := fun w4 g4 c4 hb5 hg5 hO5 => by
                              have bb : Below wr.heap.size wr w4 := (drewB _).trans hb5
                              refine ⟨_, _, _, (hb4.out.trans (bb.mono hb4.out.size)).setCell (p := ⟨gg, r, none⟩) hgB _, hR4.out.put bb hb4.out.size hrl hO5 hg5, fun q j hq hj => ?_⟩
                              unfold put
                              by_cases e : q = r
                              · subst e; rw [if_pos rfl, if_pos (by omega)]
                              · rw [if_neg e, hT4.out q j hq hj]
                                by_cases e2 : q < r ∨ q = d
                                · rw [if_pos e2, if_pos (by omega)]
                                · rw [if_neg e2, if_neg (by omega)]
                            have m1 : G - (r + 1) < G - r := by omega
                            have m2 : r + 1 ≤ G := by omega
                            clear hT4 y0 y1 HY2 HA e3 e4 ha
                            go_wp2
                            go_region_law (first
                              | (go_simp; go_at_call 110; refine (HPl.out _ (drewB _)).mono ?_; rintro e w4 ⟨g4, c4, rfl, hg4, hb5, hO4⟩; have hO5 := hR4.out.own.kept ((drewB _).trans hb5); have z6 := hO5.frozen r; have z7 := hO5.cell hrl))
                            all_goals go_wp2
                            all_goals go_roundg (G - (r + 1))
                            all_goals first
                              | exact m1
                              | exact ⟨r + 1, m2, rfl, by go_num, HEnd.out _ _ _ hb5 hg4 hO4⟩
                      · obtain rfl : r = G := by omega
                        go_wp2
                        go_roundg (n - (k + 1))
                        case measure => omega
                        case rel =>
                          exact ⟨k + 1, by omega, rfl, by go_num, _, d + 1, R4, C4, hk1.out, by go_num, by omega, hb4.out, hR4.out.congr fun i j hi hj => (hT4.out i j hi hj).trans (if_pos (Or.inl hi))⟩
            · obtain rfl : j = G := by omega
              have hk1 : Hid (bSt p j T (k + 1) = (S, d)) := bSt_stay hQ.out (by rw [hf.out, Nat.sub_self]; rfl)
              go_wp2
              go_roundg (n - (k + 1))
              case measure => omega
              case rel => exact ⟨k + 1, by omega, rfl, by go_num, S, d, R, C, hk1.out, rfl, by omega, hb.out, hR.out⟩
        · obtain rfl : d = G := by omega
          have e := HD.out
          have e2 := bSt_full (p := p) (G := d) (T := T) (k := k) (by rw [hQ.out]) (n - k)
          rw [show k + (n - k) = n by omega, hQ.out, e] at e2
          subst e2
          go_wp2
          go_ret
          exact ⟨gg, cc, rfl, hb.out, hR.out.otab⟩
      · obtain rfl : k = n := by omega
        have e := HD.out
        rw [hQ.out] at e
        subst e
        go_wp2
        go_ret
        exact ⟨gg, cc, rfl, hb.out, hR.out.otab.short hdG⟩

end Go.Proofs.Ytnnacligfoonbaa

/-
  A list put into reduced rows, by the reference; the first place with a number, in both programs. No condition beside sizes.
-/
set_option linter.unusedVariables false
set_option linter.unusedSimpArgs false
namespace Go.Proofs.Ytnnacligfoonbaa
open Go.RowKit

set_option maxRecDepth 100000 in
set_option maxHeartbeats 1000000 in
theorem iLead_c (v : Value) (n : Nat) (X : Nat → Int) (w : World) (h : Ints w v n X) (hn : n ≤ 1048576) :
    Calls Try.prog 152 #[v] w fun e w' => e = .returned (.int .i64 (ldd n X)) ∧ w = w' := by
  obtain ⟨ao, c, b, o, rfl, p2, p3, p4, p5⟩ := h.out
  have P5 := Lib.hid p5
  clear h p5
  go_enter Try.func152, Try.ntmps152
  go_wp2
  go_loopg [3] n (fun g i wr => wr = w ∧ ∃ j : Nat, j ≤ n ∧ g = n - j ∧ i = .int .i64 j ∧ Hid (∀ q, q < j → X q = 0))
  case atStart => exact ⟨rfl, 0, Nat.zero_le _, rfl, rfl, fun q hq => absurd hq (Nat.not_lt_zero _)⟩
  case round =>
    obtain ⟨rfl, j, hj, rfl, rfl, hz⟩ := hrel
    by_cases hlt : j < n
    · obtain rfl := p4 (by omega)
      obtain ⟨y, hy⟩ : ∃ y, X j = y := ⟨_, rfl⟩
      have e1 := P5.out j hlt
      rw [hy] at e1
      have HY := Lib.hid hy
      clear hy
      by_cases hy0 : y = 0
      · subst hy0
        go_wp2
        go_roundg (n - (j + 1))
        case measure => omega
        case rel => exact ⟨rfl, j + 1, by omega, rfl, by go_num, fun q hq => by
          by_cases e : q = j
          · rw [e]; exact HY.out
          · exact hz.out q (by omega)⟩
      · have hd0 : decide (y = 0) = false := decide_eq_false hy0
        go_wp2
        go_ret
        exact ⟨ret_i64 (by rw [ldd_at hlt hz.out (by rw [HY.out]; exact hy0)]), rfl⟩
    · obtain rfl : j = n := by omega
      go_wp2
      go_ret
      exact ⟨ret_i64 (by unfold ldd; rw [fst_none fun k hk => by simp [hz.out k hk]]), rfl⟩

set_option maxRecDepth 100000 in
set_option maxHeartbeats 1000000 in
theorem sFst_c (v : Value) (n : Nat) (X : Nat → Int) (w : World) (h : Ints w v n X) (hn : n ≤ 1048576) :
    Calls Try.prog 147 #[v] w fun e w' => e = .returned (.int .i64 (ldd n X)) ∧ w = w' := by
  obtain ⟨ao, c, b, o, rfl, p2, p3, p4, p5⟩ := h.out
  have P5 := Lib.hid p5
  clear h p5
  go_enter Try.func147, Try.ntmps147
  go_wp2
  go_loopg [3] n (fun g i wr => wr = w ∧ ∃ j : Nat, j ≤ n ∧ g = n - j ∧ i = .int .i64 j ∧ Hid (∀ q, q < j → X q = 0))
  case atStart => exact ⟨rfl, 0, Nat.zero_le _, rfl, rfl, fun q hq => absurd hq (Nat.not_lt_zero _)⟩
  case round =>
    obtain ⟨rfl, j, hj, rfl, rfl, hz⟩ := hrel
    by_cases hlt : j < n
    · obtain rfl := p4 (by omega)
      obtain ⟨y, hy⟩ : ∃ y, X j = y := ⟨_, rfl⟩
      have e1 := P5.out j hlt
      rw [hy] at e1
      have HY := Lib.hid hy
      clear hy
      by_cases hy0 : y = 0
      · subst hy0
        go_wp2
        go_roundg (n - (j + 1))
        case measure => omega
        case rel => exact ⟨rfl, j + 1, by omega, rfl, by go_num, fun q hq => by
          by_cases e : q = j
          · rw [e]; exact HY.out
          · exact hz.out q (by omega)⟩
      · have hd0 : decide (y = 0) = false := decide_eq_false hy0
        go_wp2
        go_ret
        exact ⟨ret_i64 (by rw [ldd_at hlt hz.out (by rw [HY.out]; exact hy0)]), rfl⟩
    · obtain rfl : j = n := by omega
      go_wp2
      go_ret
      exact ⟨ret_i64 (by unfold ldd; rw [fst_none fun k hk => by simp [hz.out k hk]]), rfl⟩

set_option maxRecDepth 100000 in
set_option maxHeartbeats 2000000 in
theorem sRest_c (p : Int) (rv v : Value) (d n : Nat) (T : Nat → Nat → Int) (X : Nat → Int) (w : World) (hr : Tab w rv d (fun _ => n) T) (hv : Ints w v n X) (hn : 1 ≤ n ∧ n ≤ 1048576) (hd : d ≤ 1048576) (hp : 3 ≤ p ∧ p ≤ 13) (hT : RowsIn p d n T) (hX : InP p n X) (hl : ∀ i, i < d → ldd n (T i) < n) :
    Calls Try.prog 150 #[.int .i64 p, rv, v] w fun e w' => CopyI w w' e n (rsF p T (fun i => ldd n (T i)) X d) := by
  have hOwn := sOwnI_c v n X w hv hn.1 hn.2
  have hin : Hid (∀ k, InP p n (rsF p T (fun i => ldd n (T i)) X k)) := fun k => by
    cases k with
    | zero => exact hX
    | succ k => exact elm_in (by omega) _ _ _ _
  obtain ⟨ao, c, b, o, A, C, RB, RO, rfl, p2, p3, p4, p5, p6, p7, p8⟩ := hr.out
  have HR : Hid (∀ i, i < d → Ints w (.slice (A i) n (C i)) n (T i)) := fun i hi => Tab.rowAt (L := fun _ => n) p6 p7 p8 hi
  have P5 := Lib.hid p5
  have HT := Lib.hid hT
  have HL := Lib.hid hl
  have HO := Lib.hid hOwn
  clear hr hv p5 p6 p7 p8 hOwn hT hl
  go_enter Try.func150, Try.ntmps150
  go_wp2_with fail
  go_at_call 158
  refine HO.out.mono ?_
  rintro e w1 ⟨g1, c1, rfl, hg1, hb1, hO1⟩
  have HB1 := Lib.hid hb1
  have HO1 := Lib.hid hO1
  clear hb1 hO1
  go_wp2_with fail
  go_loopg [7, 8] d (fun g s i wr => ∃ k : Nat, k ≤ d ∧ g = d - k ∧ i = .int .i64 k ∧ ∃ gs cs, s = .slice (some ⟨gs, 0, none⟩) n cs ∧ w.heap.size ≤ gs ∧ Hid (Below w.heap.size w wr) ∧ Hid (Own wr 2 gs cs n (fun j => .int .i64 (rsF p T (fun i => ldd n (T i)) X k j))))
  case atStart => exact ⟨0, Nat.zero_le _, rfl, rfl, g1, c1, rfl, hg1, HB1.out, HO1.out⟩
  case round =>
    obtain ⟨k, hk, rfl, rfl, gs, cs, rfl, hgs, hb, hO⟩ := hrel
    clear HB1 HO1
    by_cases hkd : k < d
    · obtain rfl := p4 (by omega)
      have e1 : wr.cell? ⟨b, o + k, none⟩ = some (.slice (A k) n (C k)) := by rw [hb.out.cell (p := ⟨b, o + k, none⟩) (lt_of_cell (P5.out k hkd))]; exact P5.out k hkd
      have hrow : Hid (Ints wr (.slice (A k) n (C k)) n (T k)) := (HR.out k hkd).below hb.out
      have hlk := HL.out k hkd
      obtain ⟨q, hq⟩ : ∃ q, ldd n (T k) = q := ⟨_, rfl⟩
      rw [hq] at hlk
      have HF : Hid (Calls Try.prog 147 #[.slice (A k) n (C k)] wr fun e w' => e = .returned (.int .i64 ((q : Nat) : Int)) ∧ wr = w') := by
        have h := sFst_c _ n (T k) wr hrow.out (by omega)
        rw [hq] at h
        exact h
      obtain ⟨R, hR⟩ : ∃ R, rsF p T (fun i => ldd n (T i)) X k = R := ⟨_, rfl⟩
      have hRs : Hid (rsF p T (fun i => ldd n (T i)) X (k + 1) = elm p R (T k) (-(R q))) := by
        show elm p (rsF p T (fun i => ldd n (T i)) X k) (T k) (-(rsF p T (fun i => ldd n (T i)) X k (ldd n (T k)))) = _
        rw [hR, hq]
      have hRin : Hid (InP p n R) := by rw [← hR]; exact hin.out k
      rw [hR] at hO
      obtain ⟨a, ha⟩ : ∃ a, R q = a := ⟨_, rfl⟩
      have e2 := hO.out.cell hlk
      have hab := hRin.out q hlk
      rw [ha] at e2 hab
      have HA := Lib.hid ha
      have i0 : (0 : Int) ≤ (k : Int) := by omega
      have i1 : (k : Int) < (d : Int) := by omega
      have i2 : (0 : Int) ≤ (q : Int) := by omega
      have i3 : (q : Int) < (n : Int) := by omega
      clear ha hq hR
      by_cases ha0 : a = 0
      · subst ha0
        go_wp2_with (first
          | (go_at_call 147; refine HF.out.mono ?_; rintro e w' ⟨rfl, rfl⟩))
        go_roundg (d - (k + 1))
        case measure => omega
        case rel => exact ⟨k + 1, by omega, rfl, by go_num, gs, cs, rfl, hgs, hb.out, hO.out.congr fun j hj => by rw [hRs.out, HA.out, elm_zero hRin.out hj]⟩
      · have hd0 : decide (a = 0) = false := decide_eq_false ha0
        have HSc : Hid (∀ W, Below wr.heap.size wr W → Calls Try.prog 134 #[.int .i64 p, .int .i64 a, .slice (A k) n (C k)] W fun e w' => CopyI W w' e n (fun j => (a * T k j) % p)) := fun W hbb =>
          sScale_c p _ n (T k) a W (hrow.out.below hbb) (by omega) (by omega) (by omega) (fun i hi => by have := HT.out k hkd i hi; omega) (by omega)
        have HMi : Hid (∀ (W : World) (v2 : Value), Below wr.heap.size wr W → Ints W v2 n (fun j => (a * T k j) % p) → Calls Try.prog 111 #[.int .i64 p, .slice (some ⟨gs, 0, none⟩) n cs, v2] W fun e w' => CopyI W w' e n (rsF p T (fun i => ldd n (T i)) X (k + 1))) := fun W v2 hbb hv2 => by
          refine (sMinus_c p _ _ n R _ W (hO.out.ints.below hbb) hv2 (by omega) (by omega) (by omega) (fun i hi => by have := hRin.out i hi; omega) (fun i hi => by have := mod_bd (a * T k i) p (by omega); show -1000 ≤ (a * T k i) % p ∧ (a * T k i) % p ≤ 1000; omega)).mono fun e w' h => ?_
          obtain ⟨g, c, q1, q2, q3, q4⟩ := h
          exact ⟨g, c, q1, q2, q3, q4.congr fun j hj => by
            rw [hRs.out, HA.out]
            congr 1
            refine Cg.eq (p := p) ((Cg.mod p _).trans (Cg.trans ?_ (Cg.mod' p _))) (mod_bd _ _ (by omega)) (mod_bd _ _ (by omega))
            refine ((Cg.rfl' p (R j)).add ((Cg.rfl' p (-1)).mul (Cg.mod p _))).trans (Cg.of_eq ?_)
            grind⟩
        clear hRs
        go_wp2_with (first
          | (go_at_call 147; refine HF.out.mono ?_; rintro e w' ⟨rfl, rfl⟩)
          | (go_at_call 134; refine (HSc.out _ (Below.refl _ _)).mono ?_; rintro e w2 ⟨g2, c2, rfl, hg2, hb2, hO2⟩)
          | (go_at_call 111; refine (HMi.out _ _ hb2 hO2.ints).mono ?_; rintro e w3 ⟨g3, c3, rfl, hg3, hb3, hO3⟩))
        go_roundg (d - (k + 1))
        case measure => omega
        case rel =>
          have s0 := hb.out.size
          have s2 := hb2.size
          exact ⟨k + 1, by omega, rfl, by go_num, g3, c3, rfl, by omega, (hb.out.trans (hb2.mono s0)).trans (hb3.mono (by omega)), hO3⟩
    · obtain rfl : k = d := by omega
      go_wp2
      go_ret
      exact ⟨gs, cs, rfl, hgs, hb.out, hO.out⟩

end Go.Proofs.Ytnnacligfoonbaa

/-
  l12Put: reduced rows with one more list, by the reference. No condition beside sizes.
-/
set_option linter.unusedVariables false
set_option linter.unusedSimpArgs false
namespace Go.Proofs.Ytnnacligfoonbaa
open Go.RowKit

/-- 'out = append(out, row)': a row that is older than those of the table -/
theorem OTab.pushOld {w : World} {B B0 g cap G : Nat} {L : Nat → Nat} {T : Nat → Nat → Int} (h : OTab w B g cap G L T) {r c n : Nat} {X : Nat → Int} (hr : Own w 2 r c n (fun j => .int .i64 (X j))) (hrB : B0 ≤ r) (hrlt : r < B) (hB0 : B0 ≤ B) : ∃ V, Own w 24 g cap G V ∧
    ∀ (w' : World) (g' cap' : Nat), Own w' 24 g' cap' (G + 1) (fun j => if j = G then .slice (some ⟨r, 0, none⟩) n c else V j) → (g' = g ∨ w.heap.size ≤ g') → w.grownBy w' (some g) →
      OTab w' B0 g' cap' (G + 1) (fun i => if i = G then n else L i) (fun i => if i = G then X else T i) := by
  obtain ⟨R, C, h1, h2, h3, h4⟩ := h.out
  refine ⟨_, h1, fun w' g' cap' hO hg hgr => ?_⟩
  have hgl := h1.lt
  have hrl := hr.lt
  refine ⟨fun i => if i = G then r else R i, fun i => if i = G then c else C i, hO.congr fun i hi => ?_, by omega, fun i hi => ?_, fun i j hi hj => ?_⟩
  · by_cases e : i = G
    · subst e; simp
    · simp [e]
  · by_cases e : i = G
    · subst e; simp only [if_true]
      exact ⟨hr.grown hgr (by intro e; injection e with e; omega), hrB, by omega⟩
    · have hi' : i < G := by omega
      simp only [if_neg e]
      have h5 := (h3 i hi').1.lt
      refine ⟨(h3 i hi').1.grown hgr (by intro e; injection e with e; exact (h3 i hi').2.2 e.symm), by have := (h3 i hi').2.1; omega, ?_⟩
      rcases hg with h | h
      · rw [h]; exact (h3 i hi').2.2
      · omega
  · by_cases e : i = G
    · subst e
      have := (h3 j hj).2.1
      simp only [if_true, if_neg (show j ≠ i by omega)]; omega
    · simp only [if_neg e, if_neg (show j ≠ G by omega)]; exact h4 i j (by omega) hj
theorem keepP2 {W W' : World} {a1 a2 : Addr} {v1 v2 : Value} (hb : Below W.heap.size W W') (h : W.cell? a1 = some v1 ∧ W.cell? a2 = some v2) : W'.cell? a1 = some v1 ∧ W'.cell? a2 = some v2 :=
  ⟨by rw [hb.cell (p := a1) (World.block_lt_of_cell? W a1 h.1)]; exact h.1, by rw [hb.cell (p := a2) (World.block_lt_of_cell? W a2 h.2)]; exact h.2⟩
theorem keepP2g {W W' : World} {a1 a2 : Addr} {v1 v2 : Value} {g : Nat} (hg : a1.block ≠ g ∧ a2.block ≠ g) (hgr : W.grownBy W' (some g)) (h : W.cell? a1 = some v1 ∧ W.cell? a2 = some v2) : W'.cell? a1 = some v1 ∧ W'.cell? a2 = some v2 := by
  have hc : ∀ (a : Addr) (v : Value), a.block ≠ g → W.cell? a = some v → W'.cell? a = some v := fun a v ha hv => by
    rw [World.cell?_of_block (w := W) (hgr.block a.block (World.block_lt_of_cell? W a hv) (by intro e; injection e with e; exact ha e))]; exact hv
  exact ⟨hc _ _ hg.1 h.1, hc _ _ hg.2 h.2⟩
theorem ins_lt {α : Type} {q r : Nat} {x : α} {f : Nat → α} (h : r < q) : ins q x f r = f r := by unfold ins; rw [if_pos h]
theorem ins_eq {α : Type} {q : Nat} {x : α} {f : Nat → α} : ins q x f q = x := by unfold ins; rw [if_neg (Nat.lt_irrefl _), if_pos rfl]
theorem ins_gt {α : Type} {q r : Nat} {x : α} {f : Nat → α} (h : q < r) : ins q x f r = f (r - 1) := by unfold ins; rw [if_neg (by omega), if_neg (by omega)]

/-- what the loop of l12Put has made of the first k rows -/
structure PutK (w : World) (wr : World) (U g' c' k q n : Nat) (placed : Bool) (len : Nat) (N : Nat → Int) (E : Nat → Nat → Int) : Prop where
  out : (k ≤ q ∧ placed = false ∧ len = k ∧ OTab wr U g' c' k (fun _ => n) E) ∨ (q < k ∧ placed = true ∧ len = k + 1 ∧ OTab wr w.heap.size g' c' (k + 1) (fun _ => n) (ins q N E))

set_option maxRecDepth 100000 in
set_option maxHeartbeats 4000000 in
theorem sPut_c (p : Int) (g cap d n B : Nat) (T : Nat → Nat → Int) (v : Value) (X : Nat → Int) (w : World) (hO : OTab w B g cap d (fun _ => n) T) (hB : B ≤ w.heap.size) (hv : Ints w v n X) (hn : 1 ≤ n ∧ n ≤ 1000) (hpr : primeB p = true) (hX : InP p n X) (hRed : ∃ c, Red p n d T c) :
    Calls Try.prog 119 #[.int .i64 p, .slice (some ⟨g, 0, none⟩) d cap, v] w fun e w' => ∃ g' c', e = .returned (.slice (some ⟨g', 0, none⟩) (putS p n X (T, d)).2 c') ∧ Below w.heap.size w w' ∧ OTab w' B g' c' (putS p n X (T, d)).2 (fun _ => n) (putS p n X (T, d)).1 := by
  have hp := primeB_bd hpr
  have hp0 : p ≠ 0 := by omega
  obtain ⟨cc, hR0⟩ := hRed
  have hdn := hR0.le
  have hle := hO.tab
  have hRs := sRest_c p _ v d n T X w hO.tab hv ⟨hn.1, by omega⟩ (by omega) hp hR0.inp hX (fun i hi => by rw [hR0.ldd hi]; exact hR0.piv i hi)
  have hRin : InP p n (rsF p T (fun i => ldd n (T i)) X d) := by
    cases d with
    | zero => exact hX
    | succ k => exact elm_in (by omega) _ _ _ _
  obtain ⟨c, hc⟩ : ∃ c : Nat → Nat, (fun i => ldd n (T i)) = c := ⟨_, rfl⟩
  have hci : ∀ i, ldd n (T i) = c i := fun i => by rw [← hc]
  rw [hc] at hRs hRin
  obtain ⟨R, hR⟩ : ∃ R, rsF p T c X d = R := ⟨_, rfl⟩
  rw [hR] at hRs hRin
  obtain ⟨a, ha⟩ : ∃ a, ldd n R = a := ⟨_, rfl⟩
  have hal : a ≤ n := by rw [← ha]; exact ldd_le n R
  have hput : putS p n X (T, d) = if a = n then (T, d) else (ins (fst (fun i => decide (a < c i)) d) (nrm p n R) (fun i => elm p (T i) (nrm p n R) (-(T i a))), d + 1) := by
    unfold putS
    simp only [hci]
    have e : rsF p T (fun i => c i) X d = R := hR
    rw [e, ha]
  rw [hput]
  have HO := Lib.hid hO
  have HRs := Lib.hid hRs
  have HCI := Lib.hid hci
  have HIn := Lib.hid hR0.inp
  have HA := Lib.hid ha
  by_cases han : a = n
  · rw [if_pos han]
    have hF : ∀ W vv, Ints W vv n R → Calls Try.prog 147 #[vv] W fun e w' => e = .returned (.int .i64 ((n : Nat) : Int)) ∧ W = w' := fun W vv h => by
      have h2 := sFst_c vv n R W h (by omega)
      rw [ha, han] at h2
      exact h2
    have HF := Lib.hid hF
    clear hO hRs hput hR hc hci hle hv hF
    go_enter Try.func119, Try.ntmps119
    go_wp2_with fail
    go_at_call 150
    refine HRs.out.mono ?_
    rintro e w1 ⟨g1, c1, rfl, hg1, hb1, hO1⟩
    have HI := Lib.hid hO1.ints
    have HB1 := Lib.hid hb1
    clear hO1 hb1
    go_wp2_with (first | (go_at_call 147; refine (HF.out _ _ HI.out).mono ?_; rintro e w' ⟨rfl, rfl⟩))
    go_ret
    exact ⟨g, cap, rfl, HB1.out, HO.out.kept HB1.out⟩
  · rw [if_neg han]
    have hF : ∀ W vv, Ints W vv n R → Calls Try.prog 147 #[vv] W fun e w' => e = .returned (.int .i64 ((a : Nat) : Int)) ∧ W = w' := fun W vv h => by
      have h2 := sFst_c vv n R W h (by omega)
      rw [ha] at h2
      exact h2
    have HF := Lib.hid hF
    obtain ⟨y, hy⟩ : ∃ y, R a = y := ⟨_, rfl⟩
    have hy0 : y ≠ 0 := by rw [← hy, ← ha]; exact ldd_is (by omega)
    have hyb := hRin a (by omega)
    rw [hy] at hyb
    obtain ⟨u, hu⟩ : ∃ u, invM p y = u := ⟨_, rfl⟩
    have hub : 0 ≤ u ∧ u < p := by rw [← hu]; exact powM_bd (by omega) _
    have HInv : Hid (∀ W, Calls Try.prog 151 #[.int .i64 p, .int .i64 y] W fun e w' => e = .returned (.int .i64 u) ∧ W = w') := fun W => hu ▸ sInv_c p y W hpr (by omega) (by omega)
    obtain ⟨N, hN⟩ : ∃ N, nrm p n R = N := ⟨_, rfl⟩
    have hNj : ∀ j, N j = (u * R j) % p := fun j => by rw [← hN]; unfold nrm; rw [ha, hy, hu]
    have hNin : Hid (InP p n N) := fun j _ => by rw [hNj]; exact mod_bd _ _ (by omega)
    have HSc : Hid (∀ W vv, Ints W vv n R → Calls Try.prog 134 #[.int .i64 p, .int .i64 u, vv] W fun e w' => CopyI W w' e n N) := fun W vv h => by
      refine (sScale_c p vv n R u W h (by omega) (by omega) (by omega) (fun i hi => by have := hRin i hi; omega) (by omega)).mono fun e w' h => ?_
      obtain ⟨g, c, q1, q2, q3, q4⟩ := h
      exact ⟨g, c, q1, q2, q3, q4.congr fun j hj => by rw [hNj]⟩
    rw [hN]
    obtain ⟨E, hE⟩ : ∃ E : Nat → Nat → Int, (fun i => elm p (T i) N (-(T i a))) = E := ⟨_, rfl⟩
    have hEi : ∀ i j, E i j = (T i j + -(T i a) * N j) % p := fun i j => by rw [← hE]; rfl
    rw [hE]
    obtain ⟨q, hq⟩ : ∃ q, fst (fun i => decide (a < c i)) d = q := ⟨_, rfl⟩
    have hqd : q ≤ d := by rw [← hq]; exact fst_le _ _
    have HQ1 : Hid (∀ i, i < q → ¬ a < c i) := fun i hi => by
      have := fst_before (fun i => decide (a < c i)) d i (by omega)
      simpa using this
    have HQ2 : Hid (q < d → a < c q) := fun h => by
      have := fst_is (fun i => decide (a < c i)) d (by omega)
      rw [hq] at this
      simpa using this
    rw [hq]
    have HEi := Lib.hid hEi
    have HY := Lib.hid hy
    have hcin : ∀ i, i < d → c i < n := fun i hi => by rw [← hci i, hR0.ldd hi]; exact hR0.piv i hi
    have HCN := Lib.hid hcin
    have a0 : (0 : Int) ≤ (a : Int) := by omega
    have a1 : (a : Int) < (n : Int) := by omega
    have han1 : ((a : Int) == (n : Int)) = false := by simp; omega
    clear hO hRs hput hR hc hci hle hv hF hy hu hN hNj hE hEi hq hcin
    go_enter Try.func119, Try.ntmps119
    go_wp2_with fail
    go_at_call 150
    refine HRs.out.mono ?_
    rintro e w1 ⟨g1, c1, rfl, hg1, hb1, hO1⟩
    have HI := Lib.hid hO1.ints
    have HB1 := Lib.hid hb1
    have z1 := hO1.cell (show a < n by omega)
    rw [HY.out] at z1
    clear hO1 hb1
    go_wp2_with (first
      | (go_at_call 147; refine (HF.out _ _ HI.out).mono ?_; rintro e w' ⟨rfl, rfl⟩)
      | (go_at_call 151; refine (HInv.out _).mono ?_; rintro e w' ⟨rfl, rfl⟩)
      | (go_at_call 134; refine (HSc.out _ _ HI.out).mono ?_; rintro e w2 ⟨g2, c2, rfl, hg2, hb2, hO2⟩; have hb3 := HB1.out.trans (hb2.mono HB1.out.size)))
    obtain ⟨U, hU⟩ : ∃ U, w2.heap.size = U := ⟨_, rfl⟩
    have hg2U : g2 < U := by have := hO2.lt; omega
    have hwU : w.heap.size ≤ U := by rw [← hU]; exact hb3.size
    have hg2w : w.heap.size ≤ g2 := by have := HB1.out.size; omega
    have hT0 : Hid (OTab (w2.alloc (.cells #[] 24)) U U 0 0 (fun _ => n) E) := by
      have h := OTab.empty w2
      rw [hU] at h
      exact h.congr (fun i hi => absurd hi (Nat.not_lt_zero _)) (fun i j hi => absurd hi (Nat.not_lt_zero _))
    have hBA : Below w2.heap.size w2 (w2.alloc (.cells #[] 24)) := (Below.refl _ _).alloc (Nat.le_refl _) _
    have hbA := Lib.hid (hb3.trans (hBA.mono hb3.size))
    have hNA := Lib.hid (hO2.kept hBA)
    have HU := Lib.hid hU
    clear hb2 hb3 hO2 hBA z1 hU
    go_wp2_with fail
    go_loopg [9, 10, 11] d (fun gg s pl i wr => ∃ k : Nat, k ≤ d ∧ gg = d - k ∧ i = .int .i64 k ∧ ∃ g' c' len placed, s = .slice (some ⟨g', 0, none⟩) len c' ∧ pl = .bool placed ∧ U ≤ g' ∧ len ≤ d + 1 ∧ Hid (Below w.heap.size w wr) ∧ Hid (Own wr 2 g2 c2 n (fun j => .int .i64 (N j))) ∧ Hid (PutK w wr U g' c' k q n placed len N E))
    case atStart => exact ⟨0, Nat.zero_le _, rfl, rfl, U, 0, 0, false, by first | rfl | simp [HU.out], rfl, Nat.le_refl _, Nat.zero_le _, hbA.out, hNA.out, ⟨Or.inl ⟨Nat.zero_le _, rfl, rfl, hT0.out⟩⟩⟩
    case round =>
      obtain ⟨k, hk, rfl, rfl, g', c', len, placed, rfl, rfl, hgU, hlen, hb, hNw, hPK⟩ := hrel
      obtain ⟨wo, rfl⟩ : ∃ wo, wo = wr := ⟨_, rfl⟩
      clear hbA hNA hT0
      by_cases hkd : k < d
      · obtain ⟨RR, RC, v1, v2, v3, v4⟩ := (HO.out.kept hb.out).out
        have y1 := v1.cell hkd
        have hrow : Hid (Ints wo (.slice (some ⟨RR k, 0, none⟩) n (RC k)) n (T k)) := (v3 k hkd).1.ints
        have hck := HCN.out k hkd
        have HFk : Hid (Calls Try.prog 147 #[.slice (some ⟨RR k, 0, none⟩) n (RC k)] wo fun e w' => e = .returned (.int .i64 ((c k : Nat) : Int)) ∧ wo = w') := by
          have h := sFst_c _ n (T k) wo hrow.out (by omega)
          rw [HCI.out k] at h
          exact h
        obtain ⟨t, ht⟩ : ∃ t, T k a = t := ⟨_, rfl⟩
        have y2 := (v3 k hkd).1.cell (show a < n by omega)
        have htb := HIn.out k hkd a (by omega)
        rw [ht] at y2 htb
        have HT := Lib.hid ht
        have hgw : g < w.heap.size := HO.out.lt
        have hRw : RR k < w.heap.size ∧ Hid (RR k < wo.heap.size) := by
          obtain ⟨R0, C0, u1, u2, u3, u4⟩ := HO.out.out
          have e1 := u1.cell hkd
          have e2 : wo.cell? ⟨g, k, none⟩ = some (.slice (some ⟨R0 k, 0, none⟩) n (C0 k)) := by rw [hb.out.cell (p := ⟨g, k, none⟩) hgw]; exact e1
          rw [y1] at e2
          injection e2 with e2
          injection e2 with e2
          injection e2 with e2
          injection e2 with e2
          rw [e2]
          exact ⟨(u3 k hkd).1.lt, by rw [← e2]; exact (v3 k hkd).1.lt⟩
        have hRowAll : ∀ W, Below w.heap.size w W → Ints W (.slice (some ⟨RR k, 0, none⟩) n (RC k)) n (T k) := fun W hW => by
          obtain ⟨R0, C0, u1, u2, u3, u4⟩ := HO.out.out
          have e1 := u1.cell hkd
          have e2 : wo.cell? ⟨g, k, none⟩ = some (.slice (some ⟨R0 k, 0, none⟩) n (C0 k)) := by rw [hb.out.cell (p := ⟨g, k, none⟩) hgw]; exact e1
          rw [y1] at e2
          have e3 : Value.slice (some ⟨RR k, 0, none⟩) n (RC k) = .slice (some ⟨R0 k, 0, none⟩) n (C0 k) := by injection e2
          rw [e3]
          exact ((u3 k hkd).1.kept hW).ints
        have k0 : (0 : Int) ≤ (k : Int) := by omega
        have k1 : (k : Int) < (d : Int) := by omega
        clear v1 v2 v3 v4 ht
        have hRK := hRw.1
        have hdd : d ≤ 1000 := by omega
        -- ROUND
        have HRowAll : Hid (∀ W, Below w.heap.size w W → Ints W (.slice (some ⟨RR k, 0, none⟩) n (RC k)) n (T k)) := fun W hW => hRowAll W hW
        rcases hPK.out with ⟨hkq, hpl, hle, hT⟩ | ⟨hkq, hpl, hle, hT⟩
        · have hnp : (!placed) = true := by rw [hpl]; rfl
          have HPL := Lib.hid hpl
          have HLE := Lib.hid hle
          have HTT := Lib.hid hT
          clear hpl hle hT hPK
          by_cases e : k = q
          · have hgt : (a : Int) < (c k : Int) := by have := HQ2.out (by omega); rw [e]; omega
            have HE := Lib.hid e
            clear e
            go_upto_if 49 with (go_at_call 147; refine HFk.out.mono ?_; rintro e w' ⟨rfl, rfl⟩)
            go_cut [9, 10] (fun s9 s10 wx => ∃ gm cm lm pm, s9 = .slice (some ⟨gm, 0, none⟩) lm cm ∧ s10 = .bool pm ∧ U ≤ gm ∧ lm ≤ d + 1 ∧ Hid (Below w.heap.size w wx) ∧ Hid (Own wx 2 g2 c2 n (fun j => .int .i64 (N j))) ∧ ∃ B' Tm, w.heap.size ≤ B' ∧ Hid (OTab wx B' gm cm lm (fun _ => n) Tm) ∧ lm ≤ k + 1 ∧ Hid (∀ wr2 g3 c3, OTab wr2 B' g3 c3 (lm + 1) (fun _ => n) (fun i => if i = lm then E k else Tm i) → PutK w wr2 U g3 c3 (k + 1) q n pm (lm + 1) N E))
            case first =>
              have hkU : U ≤ wo.heap.size := by have := HTT.out.lt; omega
              obtain ⟨V, hV, hpush⟩ := HTT.out.pushOld hNw.out hg2w hg2U hwU
              have HPo := Lib.hid hpush
              have hLk : len = k := HLE.out
              subst hLk
              clear hpush
              go_wp2_with (at_builtin; go_must (refine wpList_push _ rfl _ _ _ _ elR rfl hV (.slice (some ⟨g2, 0, none⟩) n c2) rfl rfl rfl (by omega) (by omega) ?_); intro g3 c3 w3 hO3 hg3 hgr3)
              go_meet
              exact ⟨g3, c3, len + 1, true, rfl, rfl, by omega, by omega, hb.out.grown hgr3 hb.out.size (fun q e => by injection e with e; omega), hNw.out.grown hgr3 (by intro e; injection e with e; omega), w.heap.size, _, Nat.le_refl _, (HPo.out _ _ _ hO3 hg3 hgr3).congr (fun i hi => by by_cases e : i = len <;> simp [e]) (fun _ _ _ _ => rfl), Nat.le_refl _, fun wr2 g4 c4 h => ⟨Or.inr ⟨by rw [← HE.out]; omega, rfl, rfl, h.congr (fun _ _ => rfl) fun i j hi hj => by
                have he := HE.out
                by_cases e1 : i = len + 1
                · rw [if_pos e1, e1, ins_gt (by omega), Nat.add_sub_cancel]
                · rw [if_neg e1]
                  by_cases e2 : i = len
                  · rw [if_pos e2, e2, ← he, ins_eq]
                  · rw [if_neg e2, ins_lt (by omega)]⟩⟩⟩
            case rest =>
              obtain ⟨gm, cm, lm, pm, rfl, rfl, hgm, hlm, hbm, hNm, B', Tm, hB', hTm, hlk, hPm⟩ := hcut
              have hgml := hTm.out.lt
              have hgmb := hTm.out.base
              obtain ⟨V, hV, hpush⟩ := hTm.out.pushAt (show B' ≤ wc.heap.size by omega)
              have HP := Lib.hid hpush
              have hw0 := hb.out.size
              have x1 : wc.cell? ⟨g, k, none⟩ = some (.slice (some ⟨RR k, 0, none⟩) n (RC k)) := by rw [hbm.out.cell (p := ⟨g, k, none⟩) hgw, ← hb.out.cell (p := ⟨g, k, none⟩) hgw]; exact y1
              have x2 : wc.cell? ⟨RR k, a, none⟩ = some (.int .i64 t) := by rw [hbm.out.cell (p := ⟨RR k, a, none⟩) hRK, ← hb.out.cell (p := ⟨RR k, a, none⟩) hRK]; exact y2
              have hrw : Hid (Ints wc (.slice (some ⟨RR k, 0, none⟩) n (RC k)) n (T k)) := HRowAll.out wc hbm.out
              have HS2 : Hid (∀ W, Below wc.heap.size wc W → Calls Try.prog 134 #[.int .i64 p, .int .i64 t, .slice (some ⟨g2, 0, none⟩) n c2] W fun e w' => CopyI W w' e n (fun j => (t * N j) % p)) := fun W hbb =>
                sScale_c p _ n N t W (hNm.out.ints.below hbb) (by omega) (by omega) (by omega) (fun i hi => by have := hNin.out i hi; omega) (by omega)
              have HM2 : Hid (∀ (W : World) (v2 : Value), Below wc.heap.size wc W → Ints W v2 n (fun j => (t * N j) % p) → Calls Try.prog 111 #[.int .i64 p, .slice (some ⟨RR k, 0, none⟩) n (RC k), v2] W fun e w' => CopyI W w' e n (E k)) := fun W v2 hbb hv2 => by
                refine (sMinus_c p _ _ n (T k) _ W (hrw.out.below hbb) hv2 (by omega) (by omega) (by omega) (fun i hi => by have := HIn.out k hkd i hi; omega) (fun i hi => by have := mod_bd (t * N i) p (by omega); show -1000 ≤ (t * N i) % p ∧ (t * N i) % p ≤ 1000; omega)).mono fun e w' h => ?_
                obtain ⟨g, c, q1, q2, q3, q4⟩ := h
                exact ⟨g, c, q1, q2, q3, q4.congr fun j hj => by
                  rw [HEi.out, HT.out]
                  congr 1
                  refine Cg.eq (p := p) ((Cg.mod p _).trans (Cg.trans ?_ (Cg.mod' p _))) (mod_bd _ _ (by omega)) (mod_bd _ _ (by omega))
                  refine ((Cg.rfl' p (T k j)).add ((Cg.rfl' p (-1)).mul (Cg.mod p _))).trans (Cg.of_eq ?_)
                  grind⟩
              have hgne : g ≠ gm ∧ RR k ≠ gm := ⟨by omega, by omega⟩
              have HK0 : Hid (wc.drew.cell? ⟨g, k, none⟩ = some (.slice (some ⟨RR k, 0, none⟩) n (RC k)) ∧ wc.drew.cell? ⟨RR k, a, none⟩ = some (.int .i64 t)) := ⟨cellKp (drewB wc) x1, cellKp (drewB wc) x2⟩
              have hd2 : wc.drew.heap.size = wc.heap.size := rfl
              clear hpush y1 y2 x1 x2
              go_wp2_with fail
              go_region_held3 (fun W => W.cell? ⟨g, k, none⟩ = some (.slice (some ⟨RR k, 0, none⟩) n (RC k)) ∧ W.cell? ⟨RR k, a, none⟩ = some (.int .i64 t))
                ((first | assumption | exact HK0.out | exact keepP2 (by assumption) (by assumption) | exact keepP2 ((Below.refl _ _).alloc (Nat.le_refl _) _) (by assumption) | exact keepP2g hgne (by assumption) (by assumption)))
                ((first
                  | (go_at_call 134; refine (HS2.out _ (drewB _)).mono ?_; rintro e w4 ⟨g4, c4, rfl, hg4, hb4, hO4⟩; have hS4 := keepP2 hb4 HK0.out)
                  | (go_at_call 111; refine (HM2.out _ _ ((drewB _).trans hb4) hO4.ints).mono ?_; rintro e w5 ⟨g5, c5, rfl, hg5, hb5, hO5⟩; have hbb : Below wc.heap.size wc w5 := (((drewB wc).trans hb4).trans (hb5.mono (((drewB wc).trans hb4).size))); have hV5 := hV.kept hbb; have hS5 := keepP2 (hb4.trans (hb5.mono hb4.size)) HK0.out)
                  | (refine step_push rfl _ _ _ _ elR rfl hV5 (.slice (some ⟨g5, 0, none⟩) n c5) rfl rfl rfl (by omega) (by omega) ?_; intro g6 c6 w6 hO6 hg6 hgr6)))
              all_goals go_wp2
              all_goals go_roundg (d - (k + 1))
              all_goals first
                | omega
                | (have s0 := hbm.out.size
                   have s1 := hbb.size
                   have s4 : wc.heap.size ≤ w4.heap.size := ((drewB wc).trans hb4).size
                   have hg6' : g6 = gm ∨ w5.heap.size ≤ g6 := hg6
                   have hgrA : w5.grownBy w6 (some gm) := ⟨hgr6.os, hgr6.tape, hgr6.output, hgr6.size, hgr6.block⟩
                   exact ⟨k + 1, by omega, rfl, by go_num, g6, c6, lm + 1, pm, rfl, rfl, by omega, by omega, (hbm.out.trans (hbb.mono s0)).grown hgrA (by omega) (fun q e => by injection e with e; omega), (hNm.out.kept hbb).grown hgrA (by intro e; injection e with e; omega),
                    hPm.out w6 g6 c6 ((HP.out _ _ _ _ _ _ _ _ hbb hO5 (by omega) hO6 hg6 hgrA).congr (fun i hi => by by_cases e : i = lm <;> simp [e]) (fun _ _ _ _ => rfl))⟩)
          · have hgt : ¬ (a : Int) < (c k : Int) := by have := HQ1.out k (by omega); omega
            have HE := Lib.hid e
            clear e
            go_upto_if 49 with (go_at_call 147; refine HFk.out.mono ?_; rintro e w' ⟨rfl, rfl⟩)
            go_cut [9, 10] (fun s9 s10 wx => ∃ gm cm lm pm, s9 = .slice (some ⟨gm, 0, none⟩) lm cm ∧ s10 = .bool pm ∧ U ≤ gm ∧ lm ≤ d + 1 ∧ Hid (Below w.heap.size w wx) ∧ Hid (Own wx 2 g2 c2 n (fun j => .int .i64 (N j))) ∧ ∃ B' Tm, w.heap.size ≤ B' ∧ Hid (OTab wx B' gm cm lm (fun _ => n) Tm) ∧ lm ≤ k + 1 ∧ Hid (∀ wr2 g3 c3, OTab wr2 B' g3 c3 (lm + 1) (fun _ => n) (fun i => if i = lm then E k else Tm i) → PutK w wr2 U g3 c3 (k + 1) q n pm (lm + 1) N E))
            case first =>
              go_wp2
              go_meet
              exact ⟨g', c', len, placed, rfl, rfl, hgU, hlen, hb.out, hNw.out, U, E, hwU, by rw [HLE.out]; exact HTT.out, by rw [HLE.out]; omega, fun wr2 g4 c4 h => ⟨Or.inl ⟨by have := HE.out; omega, HPL.out, by rw [HLE.out], by
                rw [HLE.out] at h
                exact h.congr (fun _ _ => rfl) fun i j hi hj => by
                  by_cases e1 : i = k
                  · rw [if_pos e1, e1]
                  · rw [if_neg e1]⟩⟩⟩
            case rest =>
              obtain ⟨gm, cm, lm, pm, rfl, rfl, hgm, hlm, hbm, hNm, B', Tm, hB', hTm, hlk, hPm⟩ := hcut
              have hgml := hTm.out.lt
              have hgmb := hTm.out.base
              obtain ⟨V, hV, hpush⟩ := hTm.out.pushAt (show B' ≤ wc.heap.size by omega)
              have HP := Lib.hid hpush
              have hw0 := hb.out.size
              have x1 : wc.cell? ⟨g, k, none⟩ = some (.slice (some ⟨RR k, 0, none⟩) n (RC k)) := by rw [hbm.out.cell (p := ⟨g, k, none⟩) hgw, ← hb.out.cell (p := ⟨g, k, none⟩) hgw]; exact y1
              have x2 : wc.cell? ⟨RR k, a, none⟩ = some (.int .i64 t) := by rw [hbm.out.cell (p := ⟨RR k, a, none⟩) hRK, ← hb.out.cell (p := ⟨RR k, a, none⟩) hRK]; exact y2
              have hrw : Hid (Ints wc (.slice (some ⟨RR k, 0, none⟩) n (RC k)) n (T k)) := HRowAll.out wc hbm.out
              have HS2 : Hid (∀ W, Below wc.heap.size wc W → Calls Try.prog 134 #[.int .i64 p, .int .i64 t, .slice (some ⟨g2, 0, none⟩) n c2] W fun e w' => CopyI W w' e n (fun j => (t * N j) % p)) := fun W hbb =>
                sScale_c p _ n N t W (hNm.out.ints.below hbb) (by omega) (by omega) (by omega) (fun i hi => by have := hNin.out i hi; omega) (by omega)
              have HM2 : Hid (∀ (W : World) (v2 : Value), Below wc.heap.size wc W → Ints W v2 n (fun j => (t * N j) % p) → Calls Try.prog 111 #[.int .i64 p, .slice (some ⟨RR k, 0, none⟩) n (RC k), v2] W fun e w' => CopyI W w' e n (E k)) := fun W v2 hbb hv2 => by
                refine (sMinus_c p _ _ n (T k) _ W (hrw.out.below hbb) hv2 (by omega) (by omega) (by omega) (fun i hi => by have := HIn.out k hkd i hi; omega) (fun i hi => by have := mod_bd (t * N i) p (by omega); show -1000 ≤ (t * N i) % p ∧ (t * N i) % p ≤ 1000; omega)).mono fun e w' h => ?_
                obtain ⟨g, c, q1, q2, q3, q4⟩ := h
                exact ⟨g, c, q1, q2, q3, q4.congr fun j hj => by
                  rw [HEi.out, HT.out]
                  congr 1
                  refine Cg.eq (p := p) ((Cg.mod p _).trans (Cg.trans ?_ (Cg.mod' p _))) (mod_bd _ _ (by omega)) (mod_bd _ _ (by omega))
                  refine ((Cg.rfl' p (T k j)).add ((Cg.rfl' p (-1)).mul (Cg.mod p _))).trans (Cg.of_eq ?_)
                  grind⟩
              have hgne : g ≠ gm ∧ RR k ≠ gm := ⟨by omega, by omega⟩
              have HK0 : Hid (wc.drew.cell? ⟨g, k, none⟩ = some (.slice (some ⟨RR k, 0, none⟩) n (RC k)) ∧ wc.drew.cell? ⟨RR k, a, none⟩ = some (.int .i64 t)) := ⟨cellKp (drewB wc) x1, cellKp (drewB wc) x2⟩
              have hd2 : wc.drew.heap.size = wc.heap.size := rfl
              clear hpush y1 y2 x1 x2
              go_wp2_with fail
              go_region_held3 (fun W => W.cell? ⟨g, k, none⟩ = some (.slice (some ⟨RR k, 0, none⟩) n (RC k)) ∧ W.cell? ⟨RR k, a, none⟩ = some (.int .i64 t))
                ((first | assumption | exact HK0.out | exact keepP2 (by assumption) (by assumption) | exact keepP2 ((Below.refl _ _).alloc (Nat.le_refl _) _) (by assumption) | exact keepP2g hgne (by assumption) (by assumption)))
                ((first
                  | (go_at_call 134; refine (HS2.out _ (drewB _)).mono ?_; rintro e w4 ⟨g4, c4, rfl, hg4, hb4, hO4⟩; have hS4 := keepP2 hb4 HK0.out)
                  | (go_at_call 111; refine (HM2.out _ _ ((drewB _).trans hb4) hO4.ints).mono ?_; rintro e w5 ⟨g5, c5, rfl, hg5, hb5, hO5⟩; have hbb : Below wc.heap.size wc w5 := (((drewB wc).trans hb4).trans (hb5.mono (((drewB wc).trans hb4).size))); have hV5 := hV.kept hbb; have hS5 := keepP2 (hb4.trans (hb5.mono hb4.size)) HK0.out)
                  | (refine step_push rfl _ _ _ _ elR rfl hV5 (.slice (some ⟨g5, 0, none⟩) n c5) rfl rfl rfl (by omega) (by omega) ?_; intro g6 c6 w6 hO6 hg6 hgr6)))
              all_goals go_wp2
              all_goals go_roundg (d - (k + 1))
              all_goals first
                | omega
                | (have s0 := hbm.out.size
                   have s1 := hbb.size
                   have s4 : wc.heap.size ≤ w4.heap.size := ((drewB wc).trans hb4).size
                   have hg6' : g6 = gm ∨ w5.heap.size ≤ g6 := hg6
                   have hgrA : w5.grownBy w6 (some gm) := ⟨hgr6.os, hgr6.tape, hgr6.output, hgr6.size, hgr6.block⟩
                   exact ⟨k + 1, by omega, rfl, by go_num, g6, c6, lm + 1, pm, rfl, rfl, by omega, by omega, (hbm.out.trans (hbb.mono s0)).grown hgrA (by omega) (fun q e => by injection e with e; omega), (hNm.out.kept hbb).grown hgrA (by intro e; injection e with e; omega),
                    hPm.out w6 g6 c6 ((HP.out _ _ _ _ _ _ _ _ hbb hO5 (by omega) hO6 hg6 hgrA).congr (fun i hi => by by_cases e : i = lm <;> simp [e]) (fun _ _ _ _ => rfl))⟩)
        · have hnp : (!placed) = false := by rw [hpl]; rfl
          have HPL := Lib.hid hpl
          have HLE := Lib.hid hle
          have HTT := Lib.hid hT
          clear hpl hle hT hPK
          go_upto_if 49 with (go_at_call 147; refine HFk.out.mono ?_; rintro e w' ⟨rfl, rfl⟩)
          go_cut [9, 10] (fun s9 s10 wx => ∃ gm cm lm pm, s9 = .slice (some ⟨gm, 0, none⟩) lm cm ∧ s10 = .bool pm ∧ U ≤ gm ∧ lm ≤ d + 1 ∧ Hid (Below w.heap.size w wx) ∧ Hid (Own wx 2 g2 c2 n (fun j => .int .i64 (N j))) ∧ ∃ B' Tm, w.heap.size ≤ B' ∧ Hid (OTab wx B' gm cm lm (fun _ => n) Tm) ∧ lm ≤ k + 1 ∧ Hid (∀ wr2 g3 c3, OTab wr2 B' g3 c3 (lm + 1) (fun _ => n) (fun i => if i = lm then E k else Tm i) → PutK w wr2 U g3 c3 (k + 1) q n pm (lm + 1) N E))
          case first =>
            go_wp2
            go_meet
            exact ⟨g', c', len, placed, rfl, rfl, hgU, hlen, hb.out, hNw.out, w.heap.size, ins q N E, Nat.le_refl _, by rw [HLE.out]; exact HTT.out, by rw [HLE.out]; exact Nat.le_refl _, fun wr2 g4 c4 h => ⟨Or.inr ⟨by omega, HPL.out, by rw [HLE.out], by
              rw [HLE.out] at h
              exact h.congr (fun _ _ => rfl) fun i j hi hj => by
                by_cases e1 : i = k + 1
                · rw [if_pos e1, e1, ins_gt (by omega), Nat.add_sub_cancel]
                · rw [if_neg e1]⟩⟩⟩
          case rest =>
            obtain ⟨gm, cm, lm, pm, rfl, rfl, hgm, hlm, hbm, hNm, B', Tm, hB', hTm, hlk, hPm⟩ := hcut
            have hgml := hTm.out.lt
            have hgmb := hTm.out.base
            obtain ⟨V, hV, hpush⟩ := hTm.out.pushAt (show B' ≤ wc.heap.size by omega)
            have HP := Lib.hid hpush
            have hw0 := hb.out.size
            have x1 : wc.cell? ⟨g, k, none⟩ = some (.slice (some ⟨RR k, 0, none⟩) n (RC k)) := by rw [hbm.out.cell (p := ⟨g, k, none⟩) hgw, ← hb.out.cell (p := ⟨g, k, none⟩) hgw]; exact y1
            have x2 : wc.cell? ⟨RR k, a, none⟩ = some (.int .i64 t) := by rw [hbm.out.cell (p := ⟨RR k, a, none⟩) hRK, ← hb.out.cell (p := ⟨RR k, a, none⟩) hRK]; exact y2
            have hrw : Hid (Ints wc (.slice (some ⟨RR k, 0, none⟩) n (RC k)) n (T k)) := HRowAll.out wc hbm.out
            have HS2 : Hid (∀ W, Below wc.heap.size wc W → Calls Try.prog 134 #[.int .i64 p, .int .i64 t, .slice (some ⟨g2, 0, none⟩) n c2] W fun e w' => CopyI W w' e n (fun j => (t * N j) % p)) := fun W hbb =>
              sScale_c p _ n N t W (hNm.out.ints.below hbb) (by omega) (by omega) (by omega) (fun i hi => by have := hNin.out i hi; omega) (by omega)
            have HM2 : Hid (∀ (W : World) (v2 : Value), Below wc.heap.size wc W → Ints W v2 n (fun j => (t * N j) % p) → Calls Try.prog 111 #[.int .i64 p, .slice (some ⟨RR k, 0, none⟩) n (RC k), v2] W fun e w' => CopyI W w' e n (E k)) := fun W v2 hbb hv2 => by
              refine (sMinus_c p _ _ n (T k) _ W (hrw.out.below hbb) hv2 (by omega) (by omega) (by omega) (fun i hi => by have := HIn.out k hkd i hi; omega) (fun i hi => by have := mod_bd (t * N i) p (by omega); show -1000 ≤ (t * N i) % p ∧ (t * N i) % p ≤ 1000; omega)).mono fun e w' h => ?_
              obtain ⟨g, c, q1, q2, q3, q4⟩ := h
              exact ⟨g, c, q1, q2, q3, q4.congr fun j hj => by
                rw [HEi.out, HT.out]
                congr 1
                refine Cg.eq (p := p) ((Cg.mod p _).trans (Cg.trans ?_ (Cg.mod' p _))) (mod_bd _ _ (by omega)) (mod_bd _ _ (by omega))
                refine ((Cg.rfl' p (T k j)).add ((Cg.rfl' p (-1)).mul (Cg.mod p _))).trans (Cg.of_eq ?_)
                grind⟩
            have hgne : g ≠ gm ∧ RR k ≠ gm := ⟨by omega, by omega⟩
            have HK0 : Hid (wc.drew.cell? ⟨g, k, none⟩ = some (.slice (some ⟨RR k, 0, none⟩) n (RC k)) ∧ wc.drew.cell? ⟨RR k, a, none⟩ = some (.int .i64 t)) := ⟨cellKp (drewB wc) x1, cellKp (drewB wc) x2⟩
            have hd2 : wc.drew.heap.size = wc.heap.size := rfl
            clear hpush y1 y2 x1 x2
            go_wp2_with fail
            go_region_held3 (fun W => W.cell? ⟨g, k, none⟩ = some (.slice (some ⟨RR k, 0, none⟩) n (RC k)) ∧ W.cell? ⟨RR k, a, none⟩ = some (.int .i64 t))
              ((first | assumption | exact HK0.out | exact keepP2 (by assumption) (by assumption) | exact keepP2 ((Below.refl _ _).alloc (Nat.le_refl _) _) (by assumption) | exact keepP2g hgne (by assumption) (by assumption)))
              ((first
                | (go_at_call 134; refine (HS2.out _ (drewB _)).mono ?_; rintro e w4 ⟨g4, c4, rfl, hg4, hb4, hO4⟩; have hS4 := keepP2 hb4 HK0.out)
                | (go_at_call 111; refine (HM2.out _ _ ((drewB _).trans hb4) hO4.ints).mono ?_; rintro e w5 ⟨g5, c5, rfl, hg5, hb5, hO5⟩; have hbb : Below wc.heap.size wc w5 := (((drewB wc).trans hb4).trans (hb5.mono (((drewB wc).trans hb4).size))); have hV5 := hV.kept hbb; have hS5 := keepP2 (hb4.trans (hb5.mono hb4.size)) HK0.out)
                | (refine step_push rfl _ _ _ _ elR rfl hV5 (.slice (some ⟨g5, 0, none⟩) n c5) rfl rfl rfl (by omega) (by omega) ?_; intro g6 c6 w6 hO6 hg6 hgr6)))
            all_goals go_wp2
            all_goals go_roundg (d - (k + 1))
            all_goals first
              | omega
              | (have s0 := hbm.out.size
                 have s1 := hbb.size
                 have s4 : wc.heap.size ≤ w4.heap.size := ((drewB wc).trans hb4).size
                 have hg6' : g6 = gm ∨ w5.heap.size ≤ g6 := hg6
                 have hgrA : w5.grownBy w6 (some gm) := ⟨hgr6.os, hgr6.tape, hgr6.output, hgr6.size, hgr6.block⟩
                 exact ⟨k + 1, by omega, rfl, by go_num, g6, c6, lm + 1, pm, rfl, rfl, by omega, by omega, (hbm.out.trans (hbb.mono s0)).grown hgrA (by omega) (fun q e => by injection e with e; omega), (hNm.out.kept hbb).grown hgrA (by intro e; injection e with e; omega),
                  hPm.out w6 g6 c6 ((HP.out _ _ _ _ _ _ _ _ hbb hO5 (by omega) hO6 hg6 hgrA).congr (fun i hi => by by_cases e : i = lm <;> simp [e]) (fun _ _ _ _ => rfl))⟩)
      · obtain rfl : k = d := by omega
        rcases hPK.out with ⟨hkq, hpl, hle, hT⟩ | ⟨hkq, hpl, hle, hT⟩
        · have hnp : (!placed) = true := by rw [hpl]; rfl
          have hqk : q = k := by omega
          obtain ⟨V, hV, hpush⟩ := hT.pushOld hNw.out hg2w hg2U hwU
          have HPo := Lib.hid hpush
          subst hle
          have HQK := Lib.hid hqk
          clear hpush hpl hPK hqk hkq
          go_wp2_with (at_builtin; go_must (refine wpList_push _ rfl _ _ _ _ elR rfl hV (.slice (some ⟨g2, 0, none⟩) n c2) rfl rfl rfl (by omega) (by omega) ?_); intro g3 c3 w3 hO3 hg3 hgr3)
          go_ret
          exact ⟨g3, c3, rfl, hb.out.grown hgr3 hb.out.size (fun q e => by injection e with e; omega), ((HPo.out _ _ _ hO3 hg3 hgr3).mono hB).congr (fun i hi => by by_cases e : i = len <;> simp [e]) fun i j hi hj => by
            have he := HQK.out
            by_cases e2 : i = len
            · rw [if_pos e2, e2, he, ins_eq]
            · rw [if_neg e2, ins_lt (by omega)]⟩
        · have hnp : (!placed) = false := by rw [hpl]; rfl
          subst hle
          clear hpl hPK
          go_wp2
          go_ret
          exact ⟨g', c', rfl, hb.out, hT.mono hB⟩

end Go.Proofs.Ytnnacligfoonbaa

/-
  l12Reduced: the lists of a table put in one by one, by the reference. No condition beside sizes.
-/
set_option linter.unusedVariables false
set_option linter.unusedSimpArgs false
namespace Go.Proofs.Ytnnacligfoonbaa
open Go.RowKit

set_option maxRecDepth 100000 in
set_option maxHeartbeats 1000000 in
theorem sReduced_c (p : Int) (v : Value) (G n : Nat) (T : Nat → Nat → Int) (w : World) (h : Tab w v G (fun _ => n) T) (hn : 1 ≤ n ∧ n ≤ 1000) (hG : G ≤ 1048576) (hpr : primeB p = true) (hT : RowsIn p G n T) :
    Calls Try.prog 117 #[.int .i64 p, v] w fun e w' => CopyT w w' e (putA p n T G).2 (fun _ => n) (putA p n T G).1 := by
  obtain ⟨ao, c, b, o, A, C, RB, RO, rfl, p2, p3, p4, p5, p6, p7, p8⟩ := h.out
  have HR : Hid (∀ i, i < G → Ints w (.slice (A i) n (C i)) n (T i)) := fun i hi => Tab.rowAt (L := fun _ => n) p6 p7 p8 hi
  have P5 := Lib.hid p5
  have HTI := Lib.hid hT
  clear h p5 p6 p7 p8 hT
  have ba : Below w.heap.size w (w.alloc (.cells #[] 24)) := (Below.refl _ _).alloc (Nat.le_refl _) _
  have hT0 : Hid (OTab (w.alloc (.cells #[] 24)) w.heap.size w.heap.size 0 (putA p n T 0).2 (fun _ => n) (putA p n T 0).1) := (OTab.empty w).congr (fun i hi => absurd hi (Nat.not_lt_zero _)) (fun i j hi => absurd hi (Nat.not_lt_zero _))
  have BA := Lib.hid ba
  clear ba
  go_enter Try.func117, Try.ntmps117
  go_wp2_with fail
  go_loopg [5, 6] G (fun g s i wr => ∃ k : Nat, k ≤ G ∧ g = G - k ∧ i = .int .i64 k ∧ ∃ g' c', s = .slice (some ⟨g', 0, none⟩) (putA p n T k).2 c' ∧ Hid (Below w.heap.size w wr) ∧ Hid (OTab wr w.heap.size g' c' (putA p n T k).2 (fun _ => n) (putA p n T k).1))
  case atStart => exact ⟨0, Nat.zero_le _, rfl, rfl, _, _, rfl, BA.out, hT0.out⟩
  case round =>
    obtain ⟨k, hk, rfl, rfl, g', c', rfl, hb, hO⟩ := hrel
    clear BA hT0
    by_cases hlt : k < G
    · obtain rfl := p4 (by omega)
      have y1 : wr.cell? ⟨b, o + k, none⟩ = some (.slice (A k) n (C k)) := by rw [hb.out.cell (p := ⟨b, o + k, none⟩) (lt_of_cell (P5.out k hlt))]; exact P5.out k hlt
      have hred := (putA_of hpr (G := k) (T := T) (n := n) (fun r hr => HTI.out r (by omega))).red
      have hput : Hid (Calls Try.prog 119 #[.int .i64 p, .slice (some ⟨g', 0, none⟩) (putA p n T k).2 c', .slice (A k) n (C k)] wr fun e w' => ∃ g2 c2, e = .returned (.slice (some ⟨g2, 0, none⟩) (putA p n T (k + 1)).2 c2) ∧ Below wr.heap.size wr w' ∧ OTab w' w.heap.size g2 c2 (putA p n T (k + 1)).2 (fun _ => n) (putA p n T (k + 1)).1) :=
        sPut_c p g' c' (putA p n T k).2 n w.heap.size (putA p n T k).1 _ (T k) wr hO.out hb.out.size ((HR.out k hlt).below hb.out) hn hpr (HTI.out k hlt) hred
      obtain ⟨d1, hd1⟩ : ∃ d1, (putA p n T k).2 = d1 := ⟨_, rfl⟩
      obtain ⟨d2, hd2⟩ : ∃ d2, (putA p n T (k + 1)).2 = d2 := ⟨_, rfl⟩
      rw [hd1, hd2] at hput
      have HD2 := Lib.hid hd2
      clear hred
      rw [hd1]
      clear hd1 hd2
      go_wp2_with (first | (go_at_call 119; refine hput.out.mono ?_; rintro e w4 ⟨g4, c4, rfl, hb4, hO4⟩))
      go_roundg (G - (k + 1))
      case measure => omega
      case rel => exact ⟨k + 1, by omega, rfl, by go_num, g4, c4, by rw [HD2.out], hb.out.trans (hb4.mono hb.out.size), by rw [HD2.out]; exact hO4⟩
    · obtain rfl : k = G := by omega
      go_wp2
      go_ret
      exact ⟨g', c', rfl, hb.out, hO.out⟩

end Go.Proofs.Ytnnacligfoonbaa
