/-
  The laws' comparisons; a drawn doubling. No condition beside sizes.
-/
import Derived.Test.YtnnacligfoonbaaLD4
import Derived.Test.YtnnacligfoonbaaD31
set_option linter.unusedVariables false
set_option linter.unusedSimpArgs false
namespace Go.Proofs.Ytnnacligfoonbaa
open Go.RowKit

set_option maxHeartbeats 400000 in
theorem likeInts_c (v1 v2 : Value) (n m : Nat) (X Y : Nat → Int) (w : World) (h1 : Ints w v1 n X) (h2 : Ints w v2 m Y) :
    Calls Try.prog 16 #[v1, v2] w fun e w' => Reads w w' e (.bool (eqB n m X Y)) := by
  obtain ⟨ao, c, ab, aoff, rfl, p2, p3, p4, p5⟩ := h1.out
  obtain ⟨bo, d, bb, boff, rfl, r2, r3, r4, r5⟩ := h2.out
  clear h1 h2
  by_cases hnm : n = m
  · subst hnm
    go_enter Try.func16, Try.ntmps16
    go_wp2
    go_loopg [5] n (fun g i wr => ∃ k : Nat, k ≤ n ∧ g = n - k ∧ i = .int .i64 k ∧ (∃ q, wr = w.drewN q) ∧ ∀ j, j < k → X j = Y j)
    case atStart => exact ⟨0, Nat.zero_le _, rfl, rfl, ⟨0, rfl⟩, fun j hj => absurd hj (Nat.not_lt_zero _)⟩
    case round =>
      obtain ⟨k, hk, rfl, rfl, ⟨q, rfl⟩, hall⟩ := hrel
      have H := Lib.hid hall; clear hall
      by_cases hlt : k < n
      · obtain rfl := p4 (by omega)
        obtain rfl := r4 (by omega)
        go_wp2
        go_quiet (fail)
        go_wp2
        · have ht : (X k != Y k) = true := by assumption
          go_ret
          exact ⟨ret_bool (eqB_at hlt (by simpa using ht)).symm, by first | exact ⟨_, rfl⟩ | exact ⟨_, World.drewN_drewN _ _ _⟩⟩
        · have ht : (X k != Y k) = false := by assumption
          go_roundg (n - (k + 1))
          case measure => omega
          case rel => exact ⟨k + 1, by omega, rfl, by go_num, (by first | exact ⟨_, rfl⟩ | exact ⟨_, World.drewN_drewN _ _ _⟩), fun j hj => by
            by_cases e : j = k
            · subst e; simpa using ht
            · exact H.out j (by omega)⟩
      · obtain rfl : k = n := by omega
        go_wp2
        go_ret
        exact ⟨ret_bool (eqB_all H.out).symm, _, rfl⟩
  · have hd : ((n : Int) != (m : Int)) = true := by rw [bne_iff_ne]; omega
    go_enter Try.func16, Try.ntmps16
    go_wp2
    go_ret
    exact ⟨ret_bool (eqB_ne hnm).symm, 0, rfl⟩

set_option maxHeartbeats 400000 in
theorem same9_c (v1 v2 : Value) (G H : Nat) (L M : Nat → Nat) (T U : Nat → Nat → Int) (w : World) (h1 : Tab w v1 G L T) (h2 : Tab w v2 H M U) :
    Calls Try.prog 21 #[v1, v2] w fun e w' => Reads w w' e (.bool (eqTB G H L M T U)) := by
  obtain ⟨ao, c, ab, aoff, A, C, RB, RO, rfl, p2, p3, p4, p5, p6, p7, p8⟩ := h1.out
  obtain ⟨bo, d, bb, boff, A', C', RB', RO', rfl, r2, r3, r4, r5, r6, r7, r8⟩ := h2.out
  clear h1 h2
  have hr1 : ∀ i, i < G → Ints w (.slice (A i) (L i) (C i)) (L i) (T i) := fun i hi => Tab.rowAt p6 p7 p8 hi
  have hr2 : ∀ i, i < H → Ints w (.slice (A' i) (M i) (C' i)) (M i) (U i) := fun i hi => Tab.rowAt r6 r7 r8 hi
  have H1 := Lib.hid hr1
  have H2 := Lib.hid hr2
  clear hr1 hr2 p6 p7 p8 r6 r7 r8
  by_cases hnm : G = H
  · subst hnm
    go_enter Try.func21, Try.ntmps21
    go_wp2
    go_loopg [5] G (fun g i wr => ∃ k : Nat, k ≤ G ∧ g = G - k ∧ i = .int .i64 k ∧ (∃ q, wr = w.drewN q) ∧ ∀ j, j < k → eqB (L j) (M j) (T j) (U j) = true)
    case atStart => exact ⟨0, Nat.zero_le _, rfl, rfl, ⟨0, rfl⟩, fun j hj => absurd hj (Nat.not_lt_zero _)⟩
    case round =>
      obtain ⟨k, hk, rfl, rfl, hq, hall⟩ := hrel
      have H := Lib.hid hall; clear hall
      have Hq := Lib.hid hq
      by_cases hlt : k < G
      · obtain rfl := p4 (by omega)
        obtain rfl := r4 (by omega)
        have e1 : wr.cell? ⟨ab, aoff + k, none⟩ = some (.slice (A k) (L k) (C k)) := by obtain ⟨q, rfl⟩ := hq; simpa using p5 k hlt
        have e2 : wr.cell? ⟨bb, boff + k, none⟩ = some (.slice (A' k) (M k) (C' k)) := by obtain ⟨q, rfl⟩ := hq; simpa using r5 k hlt
        have i1 : ∀ n, Ints (wr.drewN n) (.slice (A k) (L k) (C k)) (L k) (T k) := fun n => by obtain ⟨q, rfl⟩ := hq; exact ((H1.out k hlt).drewN q).drewN n
        have i2 : ∀ n, Ints (wr.drewN n) (.slice (A' k) (M k) (C' k)) (M k) (U k) := fun n => by obtain ⟨q, rfl⟩ := hq; exact ((H2.out k hlt).drewN q).drewN n
        have I1 := Lib.hid i1
        have I2 := Lib.hid i2
        clear i1 i2 p5 r5 hq
        go_wp2
        go_quiet ((go_at_call 16; exact Calls.reads (likeInts_c _ _ _ _ _ _ _ (I1.out _) (I2.out _))))
        cases hb : eqB (L k) (M k) (T k) (U k)
        · go_wp2
          go_ret
          exact ⟨ret_bool (eqTB_at hlt hb).symm, drewN_more Hq.out _⟩
        · go_wp2
          go_roundg (G - (k + 1))
          case measure => omega
          case rel => exact ⟨k + 1, by omega, rfl, by go_num, drewN_more Hq.out _, fun j hj => by
            by_cases e : j = k
            · subst e; exact hb
            · exact H.out j (by omega)⟩
      · obtain rfl : k = G := by omega
        go_wp2
        go_ret
        exact ⟨ret_bool (eqTB_all H.out).symm, Hq.out⟩
  · have hd : ((G : Int) != (H : Int)) = true := by rw [bne_iff_ne]; omega
    go_enter Try.func21, Try.ntmps21
    go_wp2
    go_ret
    exact ⟨ret_bool (eqTB_ne hnm).symm, 0, rfl⟩

theorem OI.lowH {w : World} {B B' U U' : Nat} {a : Option Addr} {c n : Nat} {X : Nat → Int} (h : OI w B U a c n X) (hB : B' ≤ B) (hU : U ≤ U') : OI w B' U' a c n X := by
  rcases h.out with h | ⟨g, h1, ⟨h2, h3⟩, h4⟩
  · exact ⟨Or.inl h⟩
  · exact ⟨Or.inr ⟨g, h1, ⟨by omega, by omega⟩, h4⟩⟩
/-- what a draw of a doubling hands back -/
structure DrawnD (w w' : World) (e : Ending) : Prop where
  out : ∃ (P : Int) (a : Option Addr) (c m : Nat) (s : Nat → Int), e = .returned (dbl P (.slice a m c)) ∧ Below w.heap.size w w' ∧ OI w' w.heap.size w'.heap.size a c m s
theorem Drew.below {w w' : World} {g : Nat} {cv : Value} {n B : Nat} (h : Drew w w' g cv n) (hB : B ≤ w.heap.size) (hg : B ≤ g) : Below B w w' := h.chg.below hB (fun k e => by have e : k = g := e; omega)

set_option maxRecDepth 100000 in
set_option maxHeartbeats 2000000 in
theorem sDrawNucleusOf_c (cv : Value) (n : Nat) (B : Nat → Int) (w : World) (hB : Byt w cv n B) :
    Calls Try.prog 45 #[cv] w fun e w' => DrawnD w w' e := by
  have HB : Hid (∀ W, Below w.heap.size w W → Byt W cv n B) := fun W hb => hB.below hb
  obtain ⟨wa, hwa⟩ : ∃ wa, wa = w.alloc (.cells #[.int .i64 0, .slice none 0 0] 26) := ⟨_, rfl⟩
  have hba : Below w.heap.size w wa := by rw [hwa]; exact (Below.refl _ _).alloc (Nat.le_refl _) _
  have hsa : wa.heap.size = w.heap.size + 1 := by rw [hwa]; simp
  have hra : Own wa 26 w.heap.size 2 2 (fun i => if i = 0 then .int .i64 0 else .slice none 0 0) := by rw [hwa]; exact own2 w _ _ _
  have hp1 := sFrom_c cv n B wa (hB.below hba)
  rw [hwa] at hp1
  have HP1 := Lib.hid hp1
  have HWA := Lib.hid hwa
  have HRA := Lib.hid hra
  have HBA := Lib.hid hba
  have HSZ := Lib.hid hsa
  obtain ⟨ao, c0, _, _, rfl, _⟩ := hB.out
  clear hwa hra hba hp1 hB hsa
  go_enter Try.func45, Try.ntmps45
  go_wp2_with fail
  refine HP1.out.mono ?_
  rintro e w1 ⟨g, rfl, hg, hb1, hs1⟩
  rw [← HWA.out] at hg hb1
  have hb1a := Lib.hid (HBA.out.trans (hb1.mono HBA.out.size))
  have hra1 := Lib.hid (HRA.out.kept hb1)
  have hsz := HSZ.out
  have hD := Lib.hid (sDrawAny_c g n _ B 3 w1 hs1 (fun W hc => HB.out W (hb1a.out.trans (hc.below hb1a.out.size (fun k e => by have e : k = g := e; omega)))) (by omega))
  clear HP1 HWA HRA HBA hb1 hs1
  go_wp2_with fail
  refine hD.out.mono ?_
  rintro e w2 ⟨P, a, c, m, s, rfl, hm, hP, hL, hd⟩
  have hl1 := hb1a.out.size
  have hb2 := Lib.hid (hb1a.out.trans (hd.below hl1 (by omega)))
  have hra2 := Lib.hid (hd.chg.own hra1.out (by show ¬ w.heap.size = g; omega))
  have hlt := hra1.out.lt
  have HL := Lib.hid hL
  clear hD hd hL
  have r0 := hra2.out.cell (show 0 < 2 by omega)
  have r1 := hra2.out.cell (show 1 < 2 by omega)
  have q0 := hra2.out.frozen 0
  have q1 := hra2.out.frozen 1
  simp only [if_pos, if_neg (show ¬ (1 : Nat) = 0 by omega)] at r0 r1
  have hres := (hra2.out.set 0 (.int .i64 P)).set 1 (.slice a m c)
  have c0' := hres.cell (show 0 < 2 by omega)
  have c1' := hres.cell (show 1 < 2 by omega)
  simp at c0' c1'
  have hc : Hid (Chg w2 ((w2.setCell ⟨w.heap.size, 0, none⟩ (.int .i64 P)).setCell ⟨w.heap.size, 1, none⟩ (.slice a m c)) (· = w.heap.size)) := ((Chg.refl w2 (· = w.heap.size)).setCell (a := ⟨w.heap.size, 0, none⟩) rfl (.int .i64 P)).setCell (a := ⟨w.heap.size, 1, none⟩) rfl (.slice a m c)
  clear hres
  go_wp2
  refine bodyPost_ret (by simp [results, Try.results45, go_sem, c0', c1']; try rfl) rfl ?_
  exact ⟨P, a, c, m, s, rfl, hb2.out.trans (hc.out.below hb2.out.size (fun k e => Nat.le_of_eq e.symm)), (HL.out.by hc.out (fun k e => by have e : k = w.heap.size := e; omega)).lowH (by omega) hc.out.size⟩

end Go.Proofs.Ytnnacligfoonbaa
