/-
  The law on the texts of spaces returns true where the library's variables read as their text lays them. No other condition.
-/
import Derived.Test.YtejbigdebjcomaaDoorTN5
import Derived.Test.YtejbigdebjcomaaDoorTPL
set_option linter.unusedVariables false
set_option linter.unusedSimpArgs false
set_option maxRecDepth 100000
namespace Go.Proofs.YtejbigdebjcomaaDoor
open Go.RowKit


set_option maxHeartbeats 400000 in
theorem likeInts2_c (v1 v2 : Value) (n m : Nat) (X Y : Nat → Int) (w : World) (h1 : Ints w v1 n X) (h2 : Ints w v2 m Y) :
    Calls Tryd.prog 17 #[v1, v2] w fun e w' => Reads w w' e (.bool (eqB n m X Y)) := by
  obtain ⟨ao, c, ab, aoff, rfl, p2, p3, p4, p5⟩ := h1.out
  obtain ⟨bo, d, bb, boff, rfl, r2, r3, r4, r5⟩ := h2.out
  clear h1 h2
  by_cases hnm : n = m
  · subst hnm
    go_enter Tryd.func17, Tryd.ntmps17
    go_wp2
    go_loopg [5] n (fun g i wr => ∃ k : Nat, k ≤ n ∧ g = n - k ∧ i = .int .i64 k ∧ (∃ q, wr = w.drewN q) ∧ ∀ j, j < k → X j = Y j)
    case atStart => exact ⟨0, Nat.zero_le _, rfl, rfl, ⟨0, rfl⟩, fun j hj => absurd hj (Nat.not_lt_zero _)⟩
    case round =>
      obtain ⟨k, hk, rfl, rfl, ⟨q, rfl⟩, hall⟩ := hrel
      have H := Lib.hid hall; clear hall
      by_cases hlt : k < n
      · obtain rfl := p4 (by omega)
        obtain rfl := r4 (by omega)
        go_wp2
        go_quiet (fail)
        go_wp2
        · have ht : (X k != Y k) = true := by assumption
          go_ret
          exact ⟨ret_bool (eqB_at hlt (by simpa using ht)).symm, by first | exact ⟨_, rfl⟩ | exact ⟨_, World.drewN_drewN _ _ _⟩⟩
        · have ht : (X k != Y k) = false := by assumption
          go_roundg (n - (k + 1))
          case measure => omega
          case rel => exact ⟨k + 1, by omega, rfl, by go_num, (by first | exact ⟨_, rfl⟩ | exact ⟨_, World.drewN_drewN _ _ _⟩), fun j hj => by
            by_cases e : j = k
            · subst e; simpa using ht
            · exact H.out j (by omega)⟩
      · obtain rfl : k = n := by omega
        go_wp2
        go_ret
        exact ⟨ret_bool (eqB_all H.out).symm, _, rfl⟩
  · have hd : ((n : Int) != (m : Int)) = true := by rw [bne_iff_ne]; omega
    go_enter Tryd.func17, Tryd.ntmps17
    go_wp2
    go_ret
    exact ⟨ret_bool (eqB_ne hnm).symm, 0, rfl⟩



/-- a space that the call drew -/
structure DrN (w w' : World) (e : Ending) : Prop where
  out : ∃ (P : Int) (a : Option Addr) (c m : Nat) (s : Nat → Int), e = .returned (dbl P (.slice a m c)) ∧ m ≤ 7 ∧ Below w.heap.size w w' ∧ OI w' w.heap.size w'.heap.size a c m s

set_option maxRecDepth 100000 in
set_option maxHeartbeats 4000000 in
theorem sDrawST_c (cv : Value) (n : Nat) (B : Nat → Int) (w : World) (hB : Byt w cv n B) :
    Calls Tryd.prog 16 #[cv] w fun e w' => DrN w w' e := by
  obtain ⟨W0, hW0⟩ : ∃ W0, w.alloc (.cells #[.int .i64 0, .slice none 0 0] 24) = W0 := ⟨_, rfl⟩
  have q0 : PsQ w W0 := ⟨hW0 ▸ (Below.refl _ _).alloc (Nat.le_refl _) _, hW0 ▸ own_box w _ _ _⟩
  have HF := Lib.hid (sFrom_c cv n B W0 (hB.below q0.bel))
  have HB : Hid (∀ W, Below w.heap.size w W → Byt W cv n B) := fun W hb => hB.below hb
  have q := Lib.hid q0
  clear hB q0
  go_enter Tryd.func16, Tryd.ntmps16
  go_wp2_with fail
  refine HF.out.mono ?_
  rintro e w1 ⟨g, rfl, hg, hb1, hs1⟩
  replace q := Lib.hid (q.out.kept hb1)
  have hwg : w.heap.size < g := by have := q.out.res.lt; rw [← hW0] at hg; simp at hg; omega
  have hcb : Hid (∀ W W', Below w.heap.size w W → Chg W W' (· = g) → Below w.heap.size w W') := fun W W' hb hc => hb.trans (hc.below hb.size fun k e => by have e : k = g := e; omega)
  have HD := Lib.hid (sSpoilSp_c g n cv B w1 hs1 (fun W hc => HB.out W (hcb.out _ _ q.out.bel hc)))
  have hs1w := hs1.lt
  clear HF hs1 hW0 hb1 hg
  go_wp2_with fail
  refine HD.out.mono ?_
  rintro e w2 ⟨P, a, c, m, s, rfl, hm, hP, hL, hd⟩
  replace q : Hid (PsQ w w2) := ⟨hcb.out _ _ q.out.bel hd.chg, hd.chg.own q.out.res (by show ¬ w.heap.size = g; omega)⟩
  obtain ⟨z0, z1, f0, f1⟩ := q.out.facts
  have hbw : w.heap.size < w1.heap.size := by omega
  have HL := Lib.hid hL
  clear HD hL hd
  go_wp2
  have hst := box_store q.out.bel q.out.res (Nat.le_refl _) (.int .i64 P) (.slice a m c)
  have hsz : ((w2.setCell ⟨w.heap.size, 0, none⟩ (.int .i64 P)).setCell ⟨w.heap.size, 1, none⟩ (.slice a m c)).heap.size = w2.heap.size := by simp [World.setCell]
  have ho : OI ((w2.setCell ⟨w.heap.size, 0, none⟩ (.int .i64 P)).setCell ⟨w.heap.size, 1, none⟩ (.slice a m c)) w.heap.size w2.heap.size a c m s := by
    rcases HL.out.out with h1 | ⟨g', h1, h2, h3⟩
    · exact ⟨Or.inl h1⟩
    · exact ⟨Or.inr ⟨g', h1, ⟨by have := h2.1; omega, h2.2⟩, (h3.setOther (a := ⟨w.heap.size, 0, none⟩) (by show g' ≠ w.heap.size; have := h2.1; omega) _).setOther (a := ⟨w.heap.size, 1, none⟩) (by show g' ≠ w.heap.size; have := h2.1; omega) _⟩⟩
  generalize (w2.setCell ⟨w.heap.size, 0, none⟩ (.int .i64 P)).setCell ⟨w.heap.size, 1, none⟩ (.slice a m c) = W2 at hst hsz ho ⊢
  obtain ⟨d1, d2⟩ := hst.1.box0
  (try simp only [Exit.inBlock, Exit.then])
  refine bodyPost_ret (by simp [results, Tryd.results16, go_sem, d1, d2]; try rfl) rfl ?_
  exact ⟨P, a, c, m, s, rfl, hm, hst.2, by rw [hsz]; exact ho⟩


theorem ps_uni2 (T : List UInt8) : ∃ p n s cc, n ≤ 6 ∧ (∀ W W' e, PsR W W' e T → PsU W W' e p n s cc) ∧ ((cc = 0 ∧ PsOk T p n s) ∨ cc = 6) := by
  by_cases hex : ∃ p n s, PsOk T p n s
  · obtain ⟨p, n, s, hok⟩ := hex
    refine ⟨p, n, s, 0, (spB_ok hok.sp).n6, fun W W' e h => ?_, Or.inl ⟨rfl, hok⟩⟩
    rcases h.out with ⟨p', a, c, n', s', rfl, ho, hok'⟩ | ⟨_, hno⟩
    · obtain ⟨rfl, rfl, hss⟩ := ps_inj hok' hok
      exact ⟨a, c, rfl, h.bel, ho.congrX hss⟩
    · exact absurd hok (hno p n s)
  · refine ⟨0, 0, fun _ => 0, 6, by omega, fun W W' e h => ?_, Or.inr rfl⟩
    rcases h.out with ⟨p', a, c, n', s', rfl, ho, hok'⟩ | ⟨rfl, _⟩
    · exact absurd ⟨_, _, _, hok'⟩ hex
    · exact ⟨none, 0, rfl, h.bel, ⟨Or.inl ⟨rfl, rfl, rfl⟩⟩⟩

theorem ps_back {T : List UInt8} {p : Int} {n : Nat} {s : Nat → Int} (hok : PsOk T p n s) {W W' : World} {e : Ending} (h : PsR W W' e T) : PsU W W' e p n s 0 := by
  rcases h.out with ⟨p', a, c, n', s', rfl, ho, hok'⟩ | ⟨_, hno⟩
  · obtain ⟨rfl, rfl, hss⟩ := ps_inj hok' hok
    exact ⟨a, c, rfl, h.bel, ho.congrX hss⟩
  · exact absurd hok (hno p n s)


set_option maxRecDepth 100000 in
set_option maxHeartbeats 8000000 in
theorem lawSpaceTexts_c (cv : Value) (n : Nat) (B : Nat → Int) (w : World) (hB : Byt w cv n B) (hL : LibW w) :
    Calls Tryd.prog 5 #[cv] w fun e w' => Law w w' e := by
  have HG := Lib.hid (big_c cv n B w hB)
  by_cases hn : 4096 < n
  · rw [decide_eq_true hn] at HG
    go_enter Tryd.func5, Tryd.ntmps5
    go_wp2_with (go_at_call 15; refine HG.out.mono ?_; rintro e w' ⟨rfl, rfl⟩)
    go_ret
    exact ⟨rfl, Below.refl _ _⟩
  rw [decide_eq_false hn] at HG
  have HD := Lib.hid (sDrawST_c cv n B w hB)
  have HDP : Hid (∀ W, Below w.heap.size w W → Calls Tryd.prog 18 #[cv] W fun e w' => ∃ T : ByteArray, e = .returned (.string T) ∧ T.size ≤ 700000000 ∧ Below W.heap.size W w') := fun W hb => sDrawPS_c cv n B W (hB.below hb) (by omega)
  have HLB : Hid (∀ W, Below w.heap.size w W → LibW W) := fun W hb => hL.below hb
  clear hB hL hn
  go_enter Tryd.func5, Tryd.ntmps5
  go_wp2_with (go_at_call 15; refine HG.out.mono ?_; rintro e w' ⟨rfl, rfl⟩)
  refine HD.out.mono ?_
  rintro e w1 ⟨P, a, c, m, s, rfl, hm, hb1, o1⟩
  have ha1 : Below w1.heap.size w1 (w1.alloc (.cells #[.int .i64 P, .slice a m c] 24)) := (Below.refl _ _).alloc (Nat.le_refl _) _
  have D3 := box0 w1 P a m c 24
  have d0 := D3.1
  have d1 := D3.2.1
  have o1 := o1.kept ha1
  have bb := hb1.trans (ha1.mono hb1.size)
  have HSI : Hid (∀ W, Below w.heap.size w W → Ints W (.slice a m c) m s → Calls Tryd.prog 14 #[dbl P (.slice a m c)] W fun e w' => Makes W w' e (.tuple #[.string (stB P m s), .int .i64 (stC P m s)])) := fun W hb h => iSpaceText_c P _ m s W h (HLB.out W hb).tab
  have HSS : Hid (∀ W, Ints W (.slice a m c) m s → Calls Tryd.prog 12 #[dbl P (.slice a m c)] W fun e w' => Makes W w' e (.tuple #[.string (stB P m s), .int .i64 (stC P m s)])) := fun W h => sSpaceText_c P _ m s W h
  clear ha1 D3 hb1 HD HG
  cases hsp : spB P m s
  · have e1 : stB P m s = { data := #[] } := by unfold stB; rw [hsp]; rfl
    have e2 : stC P m s = 1 := by unfold stC; rw [hsp]; rfl
    rw [e1, e2] at HSI HSS
    clear e1 e2 hsp
    go_wp2_with fail
    refine Calls.makes' (HSI.out _ bb o1.ints) _ fun w2 hb2 => ?_
    have d0 := cellKp hb2 d0
    have d1 := cellKp hb2 d1
    have o1 := o1.kept hb2
    have bb := bb.trans (hb2.mono bb.size)
    clear hb2
    go_wp2_with fail
    refine Calls.makes' (HSS.out _ o1.ints) _ fun w3 hb3 => ?_
    have bb := bb.trans (hb3.mono bb.size)
    clear hb3 d0 d1 o1 HSI HSS
    go_wp2_with fail
    refine (HDP.out _ bb).mono ?_
    rintro e w5 ⟨T, rfl, hT, hb5⟩
    have bb := bb.trans (hb5.mono bb.size)
    obtain ⟨p, k, t, cc, hk6, huni, hcc⟩ := ps_uni2 T.data.toList
    have HSp : Hid (∀ W, Calls Tryd.prog 6 #[.string T] W fun e w' => PsU W w' e p k t cc) := fun W => (sParseSpace_c T W (by omega)).mono fun e w' h => huni _ _ _ h
    have HIm : Hid (∀ W, Below w.heap.size w W → Calls Tryd.prog 7 #[.string T] W fun e w' => PsU W w' e p k t cc) := fun W hb => (iParseSpace_c T W (by omega) (HLB.out W hb)).mono fun e w' h => huni _ _ _ h
    have hcs : (cc != cc) = false := by simp
    have hpp : (p != p) = false := by simp
    have HCC := Lib.hid hcc
    clear huni hb5 hT HDP hcc
    go_wp2_with fail
    refine (HIm.out _ bb).mono ?_
    rintro e w6 ⟨⟨a11, c11, rfl, hb6, o11⟩⟩
    have ha6 : Below w6.heap.size w6 (w6.alloc (.cells #[.int .i64 p, .slice a11 k c11] 24)) := (Below.refl _ _).alloc (Nat.le_refl _) _
    have D11 := box0 w6 p a11 k c11 24
    have d0 := D11.1
    have d1 := D11.2.1
    have o11 := o11.kept ha6
    have bb := bb.trans (hb6.mono bb.size)
    have bb := bb.trans (ha6.mono bb.size)
    clear hb6 ha6 D11 HIm
    go_wp2_with fail
    refine (HSp.out _).mono ?_
    rintro e w7 ⟨⟨a13, c13, rfl, hb7, o13⟩⟩
    have ha7 : Below w7.heap.size w7 (w7.alloc (.cells #[.int .i64 p, .slice a13 k c13] 24)) := (Below.refl _ _).alloc (Nat.le_refl _) _
    have D13 := box0 w7 p a13 k c13 24
    have g0 := D13.1
    have g1 := D13.2.1
    have d0 := cellKp ha7 (cellKp hb7 d0)
    have d1 := cellKp ha7 (cellKp hb7 d1)
    have o11 := (o11.kept hb7).kept ha7
    have o13 := o13.kept ha7
    have bb := bb.trans (hb7.mono bb.size)
    have bb := bb.trans (ha7.mono bb.size)
    clear hb7 ha7 D13 HSp
    go_wp2_with fail
    go_at_call 17
    refine Calls.reads' (wr := w7.alloc (.cells #[.int .i64 p, .slice a13 k c13] 24)) (likeInts2_c _ _ _ _ _ _ _ o11.ints o13.ints) _ fun q => ?_
    rw [eqB_refl]
    have bf := bb.trans ((below_drewN _ q).mono bb.size)
    rcases HCC.out with ⟨rfl, hok⟩ | rfl
    · have HSI2 : Hid (∀ W, Below w.heap.size w W → Ints W (.slice a11 k c11) k t → Calls Tryd.prog 14 #[dbl p (.slice a11 k c11)] W fun e w' => Makes W w' e (.tuple #[.string T, .int .i64 0])) := fun W hb h => by
        have h1 := iSpaceText_c p _ k t W h (HLB.out W hb).tab
        have e1 : stB p k t = T := by unfold stB; rw [hok.sp, if_pos rfl, hok.tx]; exact (of_strB rfl).symm
        have e2 : stC p k t = 0 := by unfold stC; rw [hok.sp]; rfl
        rw [e1, e2] at h1; exact h1
      clear hok g0 g1 HCC
      have o11 := o11.kept (below_drewN _ q)
      go_wp2_with fail
      refine Calls.makes' (HSI2.out _ bf o11.ints) _ fun w9 hb9 => ?_
      have bl := bf.trans (hb9.mono bf.size)
      go_wp2
      go_ret
      exact ⟨rfl, bl⟩
    · clear HCC d0 d1 g0 g1
      go_wp2
      go_ret
      exact ⟨rfl, bf⟩
  · have e1 : stB P m s = strB (txtL P s m) := by unfold stB; rw [hsp]; rfl
    have e2 : stC P m s = 0 := by unfold stC; rw [hsp]; rfl
    have hok := spB_ok hsp
    have hlen : (strB (txtL P s m)).size ≤ 28 := by
      rw [strB_size]
      have h1 := txtL_len hok.bd hok.inp m (Nat.le_refl _)
      have h2 := hok.n6
      omega
    rw [e1, e2] at HSI HSS
    have hpk : PsOk (strB (txtL P s m)).data.toList P m s := ⟨hsp, (strB_list _).symm⟩
    obtain ⟨S, hS⟩ : ∃ S, strB (txtL P s m) = S := ⟨_, rfl⟩
    rw [hS] at HSI HSS hlen hpk
    have HPS : Hid (∀ W, Below w.heap.size w W → Calls Tryd.prog 7 #[.string S] W fun e w' => PsU W w' e P m s 0) := fun W hb => (iParseSpace_c S W (by omega) (HLB.out W hb)).mono fun e w' h => ps_back hpk h
    clear e1 e2 hsp hok hlen hpk hS
    have hcP : (P != P) = false := by simp
    go_wp2_with fail
    refine Calls.makes' (HSI.out _ bb o1.ints) _ fun w2 hb2 => ?_
    have d0 := cellKp hb2 d0
    have d1 := cellKp hb2 d1
    have o1 := o1.kept hb2
    have bb := bb.trans (hb2.mono bb.size)
    clear hb2
    go_wp2_with fail
    refine Calls.makes' (HSS.out _ o1.ints) _ fun w3 hb3 => ?_
    have d0 := cellKp hb3 d0
    have d1 := cellKp hb3 d1
    have o1 := o1.kept hb3
    have bb := bb.trans (hb3.mono bb.size)
    clear hb3
    clear HSI HSS
    go_wp2_with fail
    refine (HPS.out _ bb).mono ?_
    rintro e w4 ⟨⟨a8, c8, rfl, hb4, o8⟩⟩
    have ha4 : Below w4.heap.size w4 (w4.alloc (.cells #[.int .i64 P, .slice a8 m c8] 24)) := (Below.refl _ _).alloc (Nat.le_refl _) _
    have D8 := box0 w4 P a8 m c8 24
    have g0 := D8.1
    have g1 := D8.2.1
    have d0 := cellKp ha4 (cellKp hb4 d0)
    have d1 := cellKp ha4 (cellKp hb4 d1)
    have o1 := (o1.kept hb4).kept ha4
    have o8 := o8.kept ha4
    have bb := bb.trans (hb4.mono bb.size)
    have bb := bb.trans (ha4.mono bb.size)
    clear hb4 ha4 D8 HPS
    go_wp2_with fail
    go_at_call 17
    refine Calls.reads' (wr := w4.alloc (.cells #[.int .i64 P, .slice a8 m c8] 24)) (likeInts2_c _ _ _ _ _ _ _ o8.ints o1.ints) _ fun q => ?_
    rw [eqB_refl]
    have bb := bb.trans ((below_drewN _ q).mono bb.size)
    clear d0 d1 g0 g1 o1 o8
    go_wp2_with fail
    refine (HDP.out _ bb).mono ?_
    rintro e w5 ⟨T, rfl, hT, hb5⟩
    have bb := bb.trans (hb5.mono bb.size)
    obtain ⟨p, k, t, cc, hk6, huni, hcc⟩ := ps_uni2 T.data.toList
    have HSp : Hid (∀ W, Calls Tryd.prog 6 #[.string T] W fun e w' => PsU W w' e p k t cc) := fun W => (sParseSpace_c T W (by omega)).mono fun e w' h => huni _ _ _ h
    have HIm : Hid (∀ W, Below w.heap.size w W → Calls Tryd.prog 7 #[.string T] W fun e w' => PsU W w' e p k t cc) := fun W hb => (iParseSpace_c T W (by omega) (HLB.out W hb)).mono fun e w' h => huni _ _ _ h
    have hcs : (cc != cc) = false := by simp
    have hpp : (p != p) = false := by simp
    have HCC := Lib.hid hcc
    clear huni hb5 hT HDP hcc
    go_wp2_with fail
    refine (HIm.out _ bb).mono ?_
    rintro e w6 ⟨⟨a11, c11, rfl, hb6, o11⟩⟩
    have ha6 : Below w6.heap.size w6 (w6.alloc (.cells #[.int .i64 p, .slice a11 k c11] 24)) := (Below.refl _ _).alloc (Nat.le_refl _) _
    have D11 := box0 w6 p a11 k c11 24
    have d0 := D11.1
    have d1 := D11.2.1
    have o11 := o11.kept ha6
    have bb := bb.trans (hb6.mono bb.size)
    have bb := bb.trans (ha6.mono bb.size)
    clear hb6 ha6 D11 HIm
    go_wp2_with fail
    refine (HSp.out _).mono ?_
    rintro e w7 ⟨⟨a13, c13, rfl, hb7, o13⟩⟩
    have ha7 : Below w7.heap.size w7 (w7.alloc (.cells #[.int .i64 p, .slice a13 k c13] 24)) := (Below.refl _ _).alloc (Nat.le_refl _) _
    have D13 := box0 w7 p a13 k c13 24
    have g0 := D13.1
    have g1 := D13.2.1
    have d0 := cellKp ha7 (cellKp hb7 d0)
    have d1 := cellKp ha7 (cellKp hb7 d1)
    have o11 := (o11.kept hb7).kept ha7
    have o13 := o13.kept ha7
    have bb := bb.trans (hb7.mono bb.size)
    have bb := bb.trans (ha7.mono bb.size)
    clear hb7 ha7 D13 HSp
    go_wp2_with fail
    go_at_call 17
    refine Calls.reads' (wr := w7.alloc (.cells #[.int .i64 p, .slice a13 k c13] 24)) (likeInts2_c _ _ _ _ _ _ _ o11.ints o13.ints) _ fun q => ?_
    rw [eqB_refl]
    have bf := bb.trans ((below_drewN _ q).mono bb.size)
    rcases HCC.out with ⟨rfl, hok⟩ | rfl
    · have HSI2 : Hid (∀ W, Below w.heap.size w W → Ints W (.slice a11 k c11) k t → Calls Tryd.prog 14 #[dbl p (.slice a11 k c11)] W fun e w' => Makes W w' e (.tuple #[.string T, .int .i64 0])) := fun W hb h => by
        have h1 := iSpaceText_c p _ k t W h (HLB.out W hb).tab
        have e1 : stB p k t = T := by unfold stB; rw [hok.sp, if_pos rfl, hok.tx]; exact (of_strB rfl).symm
        have e2 : stC p k t = 0 := by unfold stC; rw [hok.sp]; rfl
        rw [e1, e2] at h1; exact h1
      clear hok g0 g1 HCC
      have o11 := o11.kept (below_drewN _ q)
      go_wp2_with fail
      refine Calls.makes' (HSI2.out _ bf o11.ints) _ fun w9 hb9 => ?_
      have bl := bf.trans (hb9.mono bf.size)
      go_wp2
      go_ret
      exact ⟨rfl, bl⟩
    · clear HCC d0 d1 g0 g1
      go_wp2
      go_ret
      exact ⟨rfl, bf⟩

end Go.Proofs.YtejbigdebjcomaaDoor
