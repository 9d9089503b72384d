/-
  The law on ParseSpace returns true where the library's variables read as their text lays them. No other condition.
-/
import Derived.Test.YtejbigdebjcomaaDoorTP7
import Derived.Test.YtejbigdebjcomaaDoorF11b
set_option linter.unusedVariables false
set_option linter.unusedSimpArgs false
set_option maxRecDepth 100000
namespace Go.Proofs.YtejbigdebjcomaaDoor
open Go.RowKit


set_option maxRecDepth 100000 in
set_option maxHeartbeats 400000 in
theorem markSp2_o (p : Int) (a : Option Addr) (B U c n : Nat) (X : Nat → Int) (k : Int) (w : World) (h : OI w B U a c n X) (h0 : 0 ≤ k) (hk : k ≤ 1099511627776) (hn : n ≤ 1099511627776) :
    Calls Tryd.prog 9 #[dbl p (.slice a n c), .int .i64 k] w fun e w' => e = .returned (.int .i64 (k + n)) ∧ Chg w w' (IV B U) ∧ OI w' B U a c n (fun i => k + i) := by
  have ha : Below w.heap.size w (w.alloc (.cells #[.int .i64 p, .slice a n c] 24)) := (Below.refl _ _).alloc (Nat.le_refl _) _
  have ho := h.kept ha
  have hc : Chg w (w.alloc (.cells #[.int .i64 p, .slice a n c] 24)) (IV B U) := Chg.of_below ha _
  clear ha
  go_enter Tryd.func9, Tryd.ntmps9
  go_wp2_with fail
  go_at_call 33
  refine (markI_o _ _ _ _ _ _ _ _ ho h0 hk hn).mono ?_
  rintro e w1 ⟨rfl, hc1, ho1⟩
  go_wp2
  go_ret
  exact ⟨rfl, hc.trans hc1, ho1⟩


set_option maxRecDepth 100000 in
set_option maxHeartbeats 400000 in
theorem heldSp_c (p : Int) (sv : Value) (n : Nat) (X : Nat → Int) (k : Int) (w : World) (h : Ints w sv n X) (h0 : 0 ≤ k) (hk : k ≤ 1048576) (hn : n ≤ 1048576) (hX : ∀ i, i < n → X i = k + i) :
    Calls Tryd.prog 10 #[dbl p sv, .int .i64 k] w fun e w' => Makes w w' e (.int .i64 (k + n)) := by
  have hi : ∀ W, Below w.heap.size w W → Ints W sv n X := fun W hb => h.below hb
  have hXX := Lib.hid hX
  obtain ⟨ao, c, b, o, rfl, p2, p3, p4, p5⟩ := h.out
  have HI := Lib.hid hi
  clear h p5 hi p4 hX
  have ha : Below w.heap.size w (w.alloc (.cells #[.int .i64 p, .slice ao n c] 24)) := (Below.refl _ _).alloc (Nat.le_refl _) _
  have HA := Lib.hid ha
  have hk0 : ¬ k + (n : Int) < 0 := by omega
  clear ha
  go_enter Tryd.func10, Tryd.ntmps10
  go_wp2_with fail
  go_at_call 34
  refine (heldInt64S_c _ _ _ _ _ (HI.out _ HA.out) h0 (by omega) (by omega) hXX.out).mono ?_
  rintro e w1 ⟨rfl, rfl⟩
  go_wp2
  go_ret
  exact ⟨rfl, HA.out⟩


/-- ParseSpace's answer, the same in both -/
structure PsU (w w' : World) (e : Ending) (p : Int) (n : Nat) (s : Nat → Int) (cc : Int) : Prop where
  out : ∃ a c, e = .returned (.tuple #[dbl p (.slice a n c), .int .i64 cc]) ∧ Below w.heap.size w w' ∧ OI w' w.heap.size w'.heap.size a c n s

theorem ps_uni (T : List UInt8) : ∃ p n s cc, n ≤ 6 ∧ ∀ W W' e, PsR W W' e T → PsU W W' e p n s cc := by
  by_cases hex : ∃ p n s, PsOk T p n s
  · obtain ⟨p, n, s, hok⟩ := hex
    refine ⟨p, n, s, 0, (spB_ok hok.sp).n6, fun W W' e h => ?_⟩
    rcases h.out with ⟨p', a, c, n', s', rfl, ho, hok'⟩ | ⟨_, hno⟩
    · obtain ⟨rfl, rfl, hss⟩ := ps_inj hok' hok
      exact ⟨a, c, rfl, h.bel, ho.congrX hss⟩
    · exact absurd hok (hno p n s)
  · refine ⟨0, 0, fun _ => 0, 6, by omega, fun W W' e h => ?_⟩
    rcases h.out with ⟨p', a, c, n', s', rfl, ho, hok'⟩ | ⟨rfl, _⟩
    · exact absurd ⟨_, _, _, hok'⟩ hex
    · exact ⟨none, 0, rfl, h.bel, ⟨Or.inl ⟨rfl, rfl, rfl⟩⟩⟩


set_option maxRecDepth 100000 in
set_option maxHeartbeats 4000000 in
theorem lawParseSpace_c (T : ByteArray) (w : World) (hL : LibW w) :
    Calls Tryd.prog 3 #[.string T] w fun e w' => Law w w' e := by
  by_cases hs : T.size ≤ 1048576
  rotate_left
  · have h1 : (1048576 : Int) < (T.size : Int) := by omega
    go_enter Tryd.func3, Tryd.ntmps3
    go_wp2
    go_ret
    exact ⟨rfl, Below.refl _ _⟩
  have h1 : ¬ (1048576 : Int) < (T.size : Int) := by omega
  obtain ⟨p, n, s, cc, hn6, huni⟩ := ps_uni T.data.toList
  have HSp : Hid (∀ W, Calls Tryd.prog 6 #[.string T] W fun e w' => PsU W w' e p n s cc) := fun W => (sParseSpace_c T W (by omega)).mono fun e w' h => huni _ _ _ h
  have HIm : Hid (∀ W, Below w.heap.size w W → Calls Tryd.prog 7 #[.string T] W fun e w' => PsU W w' e p n s cc) := fun W hb => (iParseSpace_c T W (by omega) (hL.below hb)).mono fun e w' h => huni _ _ _ h
  have hcs : (cc != cc) = false := by simp
  have hneg : ¬ (1 : Int) + (n : Int) < 0 := by omega
  have hnn : ((1 : Int) + (n : Int) != 1 + (n : Int)) = false := by simp
  clear huni hL hs
  go_enter Tryd.func3, Tryd.ntmps3
  go_wp2_with fail
  refine (HSp.out _).mono ?_
  rintro e w1 ⟨a3, c3, rfl, hb1, o3⟩
  have ha1 : Below w1.heap.size w1 (w1.alloc (.cells #[.int .i64 p, .slice a3 n c3] 24)) := (Below.refl _ _).alloc (Nat.le_refl _) _
  have D3 := box0 w1 p a3 n c3 24
  have d0 := D3.1
  have d1 := D3.2.1
  have o3 := o3.kept ha1
  have bb := hb1.trans (ha1.mono hb1.size)
  have n1 := hb1.size
  clear ha1 D3 hb1
  go_wp2_with fail
  refine (HIm.out _ bb).mono ?_
  rintro e w2 ⟨a5, c5, rfl, hb2, o5⟩
  have n2 := hb2.size
  simp only [alloc_size] at n2 o5
  have ha2 : Below w2.heap.size w2 (w2.alloc (.cells #[.int .i64 p, .slice a5 n c5] 24)) := (Below.refl _ _).alloc (Nat.le_refl _) _
  have D5 := box0 w2 p a5 n c5 24
  have f0 := D5.1
  have f1 := D5.2.1
  have d0 := cellKp ha2 (cellKp hb2 d0)
  have d1 := cellKp ha2 (cellKp hb2 d1)
  have o3 := (o3.kept hb2).kept ha2
  have o5 := o5.kept ha2
  have bb := (bb.trans (hb2.mono bb.size))
  have bb := bb.trans (ha2.mono bb.size)
  clear ha2 D5 hb2
  go_wp2_with fail
  go_at_call 8
  refine Calls.makes' (eqSp_c _ _ _ _ _ _ o5.ints o3.ints) _ fun w3 hb3 => ?_
  have d0 := cellKp hb3 d0
  have d1 := cellKp hb3 d1
  have f0 := cellKp hb3 f0
  have f1 := cellKp hb3 f1
  have o3 := o3.kept hb3
  have o5 := o5.kept hb3
  have bb := bb.trans (hb3.mono bb.size)
  clear hb3
  go_wp2_with fail
  go_at_call 9
  refine (markSp2_o _ _ _ _ _ _ _ _ _ o5 (by omega) (by omega) (by omega)).mono ?_
  rintro e w4 ⟨rfl, hc4, o5⟩
  have d0 := hc4.cellI (Or.inl (by omega)) d0
  have d1 := hc4.cellI (Or.inl (by omega)) d1
  have f0 := hc4.cellI (Or.inr (by omega)) f0
  have f1 := hc4.cellI (Or.inr (by omega)) f1
  have o3 := o3.chg hc4 (Or.inl (by omega))
  have bb := bb.trans (hc4.belowI bb.size (by omega))
  clear hc4
  go_wp2_with fail
  go_at_call 10
  refine Calls.makes' (heldSp_c _ _ _ _ _ _ o5.ints (by omega) (by omega) (by omega) fun i hi => rfl) _ fun w5 hb5 => ?_
  have d0 := cellKp hb5 d0
  have d1 := cellKp hb5 d1
  have f0 := cellKp hb5 f0
  have f1 := cellKp hb5 f1
  have o3 := o3.kept hb5
  have o5 := o5.kept hb5
  have bb := bb.trans (hb5.mono bb.size)
  clear hb5
  go_wp2_with fail
  refine (HIm.out _ bb).mono ?_
  rintro e w6 ⟨a9, c9, rfl, hb6, o9⟩
  have ha6 : Below w6.heap.size w6 (w6.alloc (.cells #[.int .i64 p, .slice a9 n c9] 24)) := (Below.refl _ _).alloc (Nat.le_refl _) _
  have D9 := box0 w6 p a9 n c9 24
  have g0 := D9.1
  have g1 := D9.2.1
  have d0 := cellKp ha6 (cellKp hb6 d0)
  have d1 := cellKp ha6 (cellKp hb6 d1)
  have f0 := cellKp ha6 (cellKp hb6 f0)
  have f1 := cellKp ha6 (cellKp hb6 f1)
  have o3 := (o3.kept hb6).kept ha6
  have o5 := (o5.kept hb6).kept ha6
  have o9 := o9.kept ha6
  have bb := (bb.trans (hb6.mono bb.size))
  have bb := bb.trans (ha6.mono bb.size)
  clear ha6 D9 hb6
  go_wp2_with fail
  go_at_call 8
  refine Calls.makes' (eqSp_c _ _ _ _ _ _ o9.ints o3.ints) _ fun w7 hb7 => ?_
  have f0 := cellKp hb7 f0
  have f1 := cellKp hb7 f1
  have o5 := o5.kept hb7
  have bb := bb.trans (hb7.mono bb.size)
  clear hb7 o9 o3
  go_wp2_with fail
  go_at_call 10
  refine Calls.makes' (heldSp_c _ _ _ _ _ _ o5.ints (by omega) (by omega) (by omega) fun i hi => rfl) _ fun w8 hb8 => ?_
  have bb := bb.trans (hb8.mono bb.size)
  go_wp2
  go_ret
  exact ⟨rfl, bb⟩

end Go.Proofs.YtejbigdebjcomaaDoor
