/-
  Tables whose rows change places, copies of tables, multiples of a list. No condition beside sizes.
-/
import Derived.Test.YtnkflgigbielgaaQNJ
import Derived.Test.YtnkflgigbielgaaSV1
import Derived.Test.YtnkflgigbielgaaSP5
set_option linter.unusedVariables false
set_option linter.unusedSimpArgs false
namespace Go.Proofs.Ytnkflgigbielgaa
open Go.RowKit

/-- a table of G rows of n numbers, its rows in blocks R -/
structure RT (w : World) (B g c G n : Nat) (R C : Nat → Nat) (T : Nat → Nat → Int) : Prop where
  own : Own w 24 g c G (fun i => .slice (some ⟨R i, 0, none⟩) n (C i))
  base : B ≤ g
  row : ∀ i, i < G → Own w 2 (R i) (C i) n (fun j => .int .i64 (T i j))
  rowB : ∀ i, i < G → B ≤ R i ∧ R i ≠ g
  dist : ∀ i j, i < G → j < G → i ≠ j → R i ≠ R j
theorem OTab.rt {w : World} {B g c G n : Nat} {T : Nat → Nat → Int} (h : OTab w B g c G (fun _ => n) T) : ∃ R C, RT w B g c G n R C T := by
  obtain ⟨R, C, h1, h2, h3, h4⟩ := h.out
  refine ⟨R, C, h1, h2, fun i hi => (h3 i hi).1, fun i hi => (h3 i hi).2, fun i j hi hj hne => ?_⟩
  by_cases e : j < i
  · exact h4 i j hi e
  · exact fun e2 => h4 j i hj (by omega) e2.symm
theorem RT.otab {w : World} {B g c G n : Nat} {R C : Nat → Nat} {T : Nat → Nat → Int} (h : RT w B g c G n R C T) : OTab w B g c G (fun _ => n) T :=
  ⟨R, C, h.own, h.base, fun i hi => ⟨h.row i hi, h.rowB i hi⟩, fun i j hi hj => h.dist i j hi (by omega) (by omega)⟩
theorem RT.kept {w w' : World} {B g c G n : Nat} {R C : Nat → Nat} {T : Nat → Nat → Int} (h : RT w B g c G n R C T) (hb : Below w.heap.size w w') : RT w' B g c G n R C T :=
  ⟨h.own.kept hb, h.base, fun i hi => (h.row i hi).kept hb, h.rowB, h.dist⟩
theorem RT.congr {w : World} {B g c G n : Nat} {R C : Nat → Nat} {T T' : Nat → Nat → Int} (h : RT w B g c G n R C T) (he : ∀ i j, i < G → j < n → T i j = T' i j) : RT w B g c G n R C T' :=
  ⟨h.own, h.base, fun i hi => (h.row i hi).congr fun j hj => by rw [he i j hi hj], h.rowB, h.dist⟩
theorem RT.shorter {w : World} {B g c G m n : Nat} {R C : Nat → Nat} {T : Nat → Nat → Int} (h : RT w B g c G n R C T) (hm : m ≤ G) : RT w B g c m n R C T :=
  ⟨h.own.shorter hm, h.base, fun i hi => h.row i (by omega), fun i hi => h.rowB i (by omega), fun i j hi hj => h.dist i j (by omega) (by omega)⟩
/-- a new row in the place of another -/
theorem RT.put {w w' : World} {B g c G n : Nat} {R C : Nat → Nat} {T : Nat → Nat → Int} (h : RT w B g c G n R C T) (hb : Below w.heap.size w w') (hB : B ≤ w.heap.size) {i r cr : Nat} {X : Nat → Int} (hi : i < G)
    (hr : Own w' 2 r cr n (fun j => .int .i64 (X j))) (hrB : w.heap.size ≤ r) : RT (w'.setCell ⟨g, i, none⟩ (.slice (some ⟨r, 0, none⟩) n cr)) B g c G n (put R i r) (put C i cr) (put T i X) := by
  have hgl := h.own.lt
  refine ⟨((h.own.kept hb).set i _).congr fun j hj => ?_, h.base, fun j hj => ?_, fun j hj => ?_, fun j k hj hk hne => ?_⟩
  · unfold Go.Proofs.Ytnkflgigbielgaa.put; by_cases e : j = i <;> simp [e]
  · unfold Go.Proofs.Ytnkflgigbielgaa.put
    by_cases e : j = i
    · simp only [if_pos e]; exact hr.setOther (by show r ≠ g; omega) _
    · simp only [if_neg e]; exact ((h.row j hj).kept hb).setOther (h.rowB j hj).2 _
  · unfold Go.Proofs.Ytnkflgigbielgaa.put
    by_cases e : j = i
    · simp only [if_pos e]; omega
    · simp only [if_neg e]; exact h.rowB j hj
  · have l1 := (h.row j hj).lt
    have l2 := (h.row k hk).lt
    unfold Go.Proofs.Ytnkflgigbielgaa.put
    by_cases e : j = i
    · rw [if_pos e, if_neg (show k ≠ i by omega)]; omega
    · rw [if_neg e]
      by_cases e2 : k = i
      · rw [if_pos e2]; omega
      · rw [if_neg e2]; exact h.dist j k hj hk hne
/-- two rows change places, and the first of them is a new row -/
theorem RT.swapV {w : World} {B g c G n : Nat} {R C : Nat → Nat} {T : Nat → Nat → Int} (h : RT w B g c G n R C T) {a b : Nat} (ha : a < G) (hb : b < G) {w' : World} (hc : Chg w w' (· = g))
    (hO : Own w' 24 g c G (fun i => .slice (some ⟨swp R a b i, 0, none⟩) n (swp C a b i))) : RT w' B g c G n (swp R a b) (swp C a b) (swp T a b) := by
  refine ⟨hO, h.base, fun j hj => ?_, fun j hj => ?_, fun j k hj hk hne => ?_⟩
  · have hq : ∀ q, q < G → Own w' 2 (R q) (C q) n (fun j => .int .i64 (T q j)) := fun q hq => hc.own (h.row q hq) (h.rowB q hq).2
    unfold swp
    split
    · exact hq b hb
    · split
      · exact hq a ha
      · exact hq j hj
  · unfold swp
    split
    · exact h.rowB b hb
    · split
      · exact h.rowB a ha
      · exact h.rowB j hj
  · unfold swp
    repeat' split
    all_goals first
      | omega
      | (apply h.dist <;> first | assumption | omega)
theorem RT.swap {w : World} {B g c G n : Nat} {R C : Nat → Nat} {T : Nat → Nat → Int} (h : RT w B g c G n R C T) {a b : Nat} (ha : a < G) (hb : b < G) :
    RT ((w.setCell ⟨g, a, none⟩ (.slice (some ⟨R b, 0, none⟩) n (C b))).setCell ⟨g, b, none⟩ (.slice (some ⟨R a, 0, none⟩) n (C a))) B g c G n (swp R a b) (swp C a b) (swp T a b) := by
  refine h.swapV ha hb (((Chg.refl w (· = g)).setCell (a := ⟨g, a, none⟩) rfl _).setCell (a := ⟨g, b, none⟩) rfl _) (((h.own.set a _).set b _).congr fun j hj => ?_)
  unfold swp
  by_cases e : j = b
  · subst e
    by_cases e2 : j = a <;> simp [e2]
  · rw [if_neg e]
    by_cases e2 : j = a
    · simp [e2]
    · simp [e, e2]
theorem RT.swap' {w : World} {B g c G n : Nat} {R C : Nat → Nat} {T : Nat → Nat → Int} (h : RT w B g c G n R C T) {a b : Nat} (ha : a < G) (hb : b < G) :
    RT ((w.setCell ⟨g, b, none⟩ (.slice (some ⟨R a, 0, none⟩) n (C a))).setCell ⟨g, a, none⟩ (.slice (some ⟨R b, 0, none⟩) n (C b))) B g c G n (swp R a b) (swp C a b) (swp T a b) := by
  refine h.swapV ha hb (((Chg.refl w (· = g)).setCell (a := ⟨g, b, none⟩) rfl _).setCell (a := ⟨g, a, none⟩) rfl _) (((h.own.set b _).set a _).congr fun j hj => ?_)
  unfold swp
  by_cases e : j = a
  · subst e; simp
  · rw [if_neg e]
    by_cases e2 : j = b
    · subst e2; simp [e]
    · simp [e, e2]

/-- a copy of a list that is not empty -/
theorem iCloneI_c (v : Value) (n : Nat) (X : Nat → Int) (w : World) (h : Ints w v n X) (h1 : 1 ≤ n) (hn : n ≤ 1048576) :
    Calls Try.prog 81 #[v] w fun e w' => CopyI w w' e n X := by
  obtain ⟨ao, c, b, o, rfl, p2, p3, p4, p5⟩ := h.out
  obtain rfl := p4 (by omega)
  have ba : Below w.heap.size w (w.alloc (.cells #[] 2)) := (Below.refl _ _).alloc (Nat.le_refl _) _
  have hcells : ∀ j, j < n → (w.alloc (.cells #[] 2)).cell? ⟨b, o + j, none⟩ = some (.int .i64 (X j)) := fun j hj => cellKp ba (p5 j hj)
  have hE : Own (w.alloc (.cells #[] 2)) 2 w.heap.size 0 0 (fun i => .int .i64 (X i)) := Own.empty _ _ _
  have BA := Lib.hid ba
  have HC := Lib.hid hcells
  clear h ba p5 hcells p4
  have hnil : ∀ W : World, (binOp .eql 24 (.slice (some ⟨b, o, none⟩) n c) (.slice none 0 0)).run Try.prog W = .ok (.bool false) W := fun W => Lib.run_eql_slice_some_nil W _ _ _ Try.underlying24
  go_enter Try.func81, Try.ntmps81
  go_wp2_with (at_builtin; refine wpList_app _ rfl _ _ _ _ elI rfl hE rfl b o n c _ rfl HC.out (fun _ _ => rfl) (by omega) (by omega) ?_; intro g9 c9 w9 hO9 hg9 hgr9)
  have hs := BA.out.size
  go_ret
  rw [Nat.zero_add] at hO9
  exact ⟨g9, c9, rfl, by omega, BA.out.grown hgr9 hs (fun k e => by injection e with e; omega), hO9.congr fun i hi => by rw [if_neg (by omega), Nat.sub_zero]⟩

theorem sOwnI_c (v : Value) (n : Nat) (X : Nat → Int) (w : World) (h : Ints w v n X) (h1 : 1 ≤ n) (hn : n ≤ 1048576) :
    Calls Try.prog 85 #[v] w fun e w' => CopyI w w' e n X := by
  obtain ⟨ao, c, b, o, rfl, p2, p3, p4, p5⟩ := h.out
  obtain rfl := p4 (by omega)
  have ba : Below w.heap.size w (w.alloc (.cells #[] 2)) := (Below.refl _ _).alloc (Nat.le_refl _) _
  have hcells : ∀ j, j < n → (w.alloc (.cells #[] 2)).cell? ⟨b, o + j, none⟩ = some (.int .i64 (X j)) := fun j hj => cellKp ba (p5 j hj)
  have hE : Own (w.alloc (.cells #[] 2)) 2 w.heap.size 0 0 (fun i => .int .i64 (X i)) := Own.empty _ _ _
  have BA := Lib.hid ba
  have HC := Lib.hid hcells
  clear h ba p5 hcells p4
  go_enter Try.func85, Try.ntmps85
  go_wp2_with (at_builtin; refine wpList_app _ rfl _ _ _ _ elI rfl hE rfl b o n c _ rfl HC.out (fun _ _ => rfl) (by omega) (by omega) ?_; intro g9 c9 w9 hO9 hg9 hgr9)
  have hs := BA.out.size
  go_ret
  rw [Nat.zero_add] at hO9
  exact ⟨g9, c9, rfl, by omega, BA.out.grown hgr9 hs (fun k e => by injection e with e; omega), hO9.congr fun i hi => by rw [if_neg (by omega), Nat.sub_zero]⟩

set_option maxRecDepth 100000 in
set_option maxHeartbeats 1000000 in
theorem iCloneRows_c (v : Value) (G n : Nat) (T : Nat → Nat → Int) (w : World) (h : Tab w v G (fun _ => n) T) (h1 : 1 ≤ n) (hn : n ≤ 1048576) (hG : G ≤ 1048576) :
    Calls Try.prog 140 #[v] w fun e w' => CopyT w w' e G (fun _ => n) T := by
  obtain ⟨ao, c, b, o, A, C, RB, RO, rfl, p2, p3, p4, p5, p6, p7, p8⟩ := h.out
  have HR : Hid (∀ i, i < G → Ints w (.slice (A i) n (C i)) n (T i)) := fun i hi => Tab.rowAt (L := fun _ => n) p6 p7 p8 hi
  have P5 := Lib.hid p5
  clear h p5 p6 p7 p8
  have ba : Below w.heap.size w (w.alloc (.cells #[] 24)) := (Below.refl _ _).alloc (Nat.le_refl _) _
  go_enter Try.func140, Try.ntmps140
  go_wp2
  go_loopg [3, 9] G (fun g o i wr => ∃ k : Nat, k ≤ G ∧ g = G - k ∧ i = .int .i64 k ∧ Below w.heap.size w wr ∧ ∃ g' c', o = .slice (some ⟨g', 0, none⟩) k c' ∧ OTab wr w.heap.size g' c' k (fun _ => n) T)
  case atStart => exact ⟨0, Nat.zero_le _, rfl, rfl, ba, _, _, rfl, (OTab.empty w).congr (fun i hi => absurd hi (Nat.not_lt_zero _)) (fun i j hi => absurd hi (Nat.not_lt_zero _))⟩
  case round =>
    obtain ⟨k, hk, rfl, rfl, hb, g', c', rfl, hT⟩ := hrel
    by_cases hlt : k < G
    · obtain rfl := p4 (by omega)
      have hl := lt_of_cell (P5.out k hlt)
      have y1 : wr.cell? ⟨b, o + k, none⟩ = some (.slice (A k) n (C k)) := by rw [hb.cell (p := ⟨b, o + k, none⟩) hl]; exact P5.out k hlt
      obtain ⟨V, hV, hpush⟩ := hT.pushAt hb.size
      have HP := Lib.hid hpush
      have hgB := hT.base
      clear hpush
      go_wp2_with (first
        | (go_at_call 81; refine (iCloneI_c _ n (T k) _ ((HR.out k hlt).below hb) h1 hn).mono ?_; rintro e w4 ⟨g4, c4, rfl, hg4, hb4, hO4⟩; have hV4 := hV.kept hb4)
        | (at_builtin; refine wpList_push _ rfl _ _ _ _ elR rfl hV4 (.slice (some ⟨g4, 0, none⟩) n c4) rfl rfl rfl (by omega) (by omega) ?_; intro g3 c3 w3 hO3 hg3 hgr3))
      go_roundg (G - (k + 1))
      case measure => omega
      case rel =>
        have hs := hb.size
        have hs4 := hb4.size
        exact ⟨k + 1, by omega, rfl, by go_num, (hb.trans (hb4.mono hs)).grown hgr3 (by omega) (fun q e => by injection e with e; omega), g3, c3, rfl, (HP.out _ _ _ _ _ _ _ _ hb4 hO4 hg4 hO3 hg3 hgr3).congr (fun i hi => by by_cases e : i = k <;> simp [e]) (fun i j hi hj => by by_cases e : i = k <;> simp [e])⟩
    · obtain rfl : k = G := by omega
      go_wp2
      go_ret
      exact ⟨g', c', rfl, hb, hT⟩

set_option maxRecDepth 100000 in
set_option maxHeartbeats 1000000 in
theorem sOwn2_c (v : Value) (G n : Nat) (T : Nat → Nat → Int) (w : World) (h : Tab w v G (fun _ => n) T) (h1 : 1 ≤ n) (hn : n ≤ 1048576) (hG : G ≤ 1048576) :
    Calls Try.prog 144 #[v] w fun e w' => CopyT w w' e G (fun _ => n) T := by
  obtain ⟨ao, c, b, o, A, C, RB, RO, rfl, p2, p3, p4, p5, p6, p7, p8⟩ := h.out
  have HR : Hid (∀ i, i < G → Ints w (.slice (A i) n (C i)) n (T i)) := fun i hi => Tab.rowAt (L := fun _ => n) p6 p7 p8 hi
  have P5 := Lib.hid p5
  clear h p5 p6 p7 p8
  have ba : Below w.heap.size w (w.alloc (.cells #[] 24)) := (Below.refl _ _).alloc (Nat.le_refl _) _
  go_enter Try.func144, Try.ntmps144
  go_wp2
  go_loopg [3, 4] G (fun g o i wr => ∃ k : Nat, k ≤ G ∧ g = G - k ∧ i = .int .i64 k ∧ Below w.heap.size w wr ∧ ∃ g' c', o = .slice (some ⟨g', 0, none⟩) k c' ∧ OTab wr w.heap.size g' c' k (fun _ => n) T)
  case atStart => exact ⟨0, Nat.zero_le _, rfl, rfl, ba, _, _, rfl, (OTab.empty w).congr (fun i hi => absurd hi (Nat.not_lt_zero _)) (fun i j hi => absurd hi (Nat.not_lt_zero _))⟩
  case round =>
    obtain ⟨k, hk, rfl, rfl, hb, g', c', rfl, hT⟩ := hrel
    by_cases hlt : k < G
    · obtain rfl := p4 (by omega)
      have hl := lt_of_cell (P5.out k hlt)
      have y1 : wr.cell? ⟨b, o + k, none⟩ = some (.slice (A k) n (C k)) := by rw [hb.cell (p := ⟨b, o + k, none⟩) hl]; exact P5.out k hlt
      obtain ⟨V, hV, hpush⟩ := hT.pushAt hb.size
      have HP := Lib.hid hpush
      have hgB := hT.base
      clear hpush
      go_wp2_with (first
        | (go_at_call 85; refine (sOwnI_c _ n (T k) _ ((HR.out k hlt).below hb) h1 hn).mono ?_; rintro e w4 ⟨g4, c4, rfl, hg4, hb4, hO4⟩; have hV4 := hV.kept hb4)
        | (at_builtin; refine wpList_push _ rfl _ _ _ _ elR rfl hV4 (.slice (some ⟨g4, 0, none⟩) n c4) rfl rfl rfl (by omega) (by omega) ?_; intro g3 c3 w3 hO3 hg3 hgr3))
      go_roundg (G - (k + 1))
      case measure => omega
      case rel =>
        have hs := hb.size
        have hs4 := hb4.size
        exact ⟨k + 1, by omega, rfl, by go_num, (hb.trans (hb4.mono hs)).grown hgr3 (by omega) (fun q e => by injection e with e; omega), g3, c3, rfl, (HP.out _ _ _ _ _ _ _ _ hb4 hO4 hg4 hO3 hg3 hgr3).congr (fun i hi => by by_cases e : i = k <;> simp [e]) (fun i j hi hj => by by_cases e : i = k <;> simp [e])⟩
    · obtain rfl : k = G := by omega
      go_wp2
      go_ret
      exact ⟨g', c', rfl, hb, hT⟩

set_option maxHeartbeats 1000000 in
theorem sScale2_c (p : Int) (v : Value) (n : Nat) (X : Nat → Int) (k : Int) (w : World) (h : Ints w v n X) (hn : n ≤ 1048576) (h1 : 1 ≤ p) (h2 : p ≤ 1000) (hX : InP p n X) (hk : 0 ≤ k ∧ k ≤ 1000) :
    Calls Try.prog 163 #[.int .i64 p, v, .int .i64 k] w fun e w' => CopyI w w' e n (fun i => (X i * k) % p) := by
  obtain ⟨ao, c, b, o, rfl, p2, p3, p4, p5⟩ := h.out
  have P5 := Lib.hid p5
  have HX := Lib.hid hX
  clear h p5 hX
  have hp0 : p ≠ 0 := by omega
  go_enter Try.func163, Try.ntmps163
  go_wp2
  go_loopg [7, 8] n (fun gg s i wr => ∃ j : Nat, j ≤ n ∧ gg = n - j ∧ i = .int .i64 j ∧ ∃ g2 c2, s = .slice (some ⟨g2, 0, none⟩) j c2 ∧ w.heap.size ≤ g2 ∧ Below w.heap.size w wr ∧ Own wr 2 g2 c2 j (fun i => .int .i64 ((X i * k) % p)))
  case atStart => exact ⟨0, Nat.zero_le _, rfl, rfl, _, _, rfl, Nat.le_refl _, (Below.refl _ _).alloc (Nat.le_refl _) _, Own.empty _ _ _⟩
  case round =>
    obtain ⟨j, hj, rfl, rfl, g2, c2, rfl, hg2, hb2, hO⟩ := hrel
    by_cases hlt : j < n
    · obtain rfl := p4 (by omega)
      have hx := HX.out j hlt
      have hm := mul_bd (a := X j) (b := k) (by omega) (by omega)
      have hm0 : 0 ≤ X j * k := Int.mul_nonneg (by omega) (by omega)
      have e1 : wr.cell? ⟨b, o + j, none⟩ = some (.int .i64 (X j)) := by
        rw [hb2.cell (p := ⟨b, o + j, none⟩) (lt_of_cell (P5.out j hlt))]; exact P5.out j hlt
      have hw1 : IntKind.i64.wrap (X j * k) = X j * k := wrap_in _ (by omega)
      have ht : Int.tmod (X j * k) p = (X j * k) % p := Int.tmod_eq_emod_of_nonneg (by omega)
      go_wp2_with (at_builtin; refine wpList_push _ rfl _ _ _ _ elI rfl hO (.int .i64 ((X j * k) % p)) rfl rfl rfl (by omega) (by omega) ?_; intro g3 c3 w3 hO3 hg3 hgr3)
      go_roundg (n - (j + 1))
      case measure => omega
      case rel =>
        have hlt4 := hb2.size
        refine ⟨j + 1, by omega, rfl, by go_num, g3, c3, rfl, by omega, hb2.grown hgr3 hlt4 (fun k e => by injection e with e; omega), hO3.congr fun i hi => ?_⟩
        by_cases e2 : i = j
        · subst e2; simp
        · simp [e2]
    · obtain rfl : j = n := by omega
      go_wp2
      go_ret
      exact ⟨g2, c2, rfl, hg2, hb2, hO⟩

end Go.Proofs.Ytnkflgigbielgaa
