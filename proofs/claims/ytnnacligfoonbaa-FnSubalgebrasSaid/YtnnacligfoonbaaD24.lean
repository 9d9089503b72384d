/-
  Powers and inverses of numbers, and the norm of an element, in both programs. No condition beside sizes.
-/
import Derived.Test.YtnnacligfoonbaaD22
import Derived.Test.YtnnacligfoonbaaQNJ
set_option linter.unusedVariables false
set_option linter.unusedSimpArgs false
namespace Go.Proofs.Ytnnacligfoonbaa
open Go.RowKit

set_option maxHeartbeats 400000 in
theorem iPow_c (p a kv : Int) (k : Nat) (hkv : kv = k) (w : World) (h1 : 2 ≤ p) (h2 : p ≤ 1000) (ha : 0 ≤ a ∧ a < p) (hk : k ≤ 1000) :
    Calls Try.prog 140 #[.int .i64 p, .int .i64 a, .int .i64 kv] w fun e w' => e = .returned (.int .i64 (powM p a k)) ∧ w = w' := by
  subst hkv
  go_enter Try.func140, Try.ntmps140
  go_wp2
  go_loopg [7, 9] k (fun g o i wr => w = wr ∧ ∃ j : Nat, j ≤ k ∧ g = k - j ∧ i = .int .i64 j ∧ o = .int .i64 (powM p a j))
  case atStart => exact ⟨rfl, 0, Nat.zero_le _, rfl, rfl, rfl⟩
  case round =>
    obtain ⟨rfl, j, hj, rfl, rfl, rfl⟩ := hrel
    by_cases hlt : j < k
    · have hb := powM_bd (p := p) (a := a) (by omega) j
      have hm := mul_bd (a := powM p a j) (b := a) (by omega) (by omega)
      go_wp2_with (go_at_call 81; refine (iNum_c _ _ _ (by omega) h2 (by omega) (by omega)).mono ?_; rintro e w' ⟨rfl, rfl⟩)
      go_roundg (k - (j + 1))
      case measure => omega
      case rel => exact ⟨rfl, j + 1, by omega, rfl, by go_num, rfl⟩
    · obtain rfl : j = k := by omega
      go_wp2
      go_ret
      exact ⟨rfl, rfl⟩

theorem iInv_c (p a : Int) (w : World) (h1 : 2 ≤ p) (h2 : p ≤ 1000) (ha : 0 ≤ a ∧ a < p) :
    Calls Try.prog 102 #[.int .i64 p, .int .i64 a] w fun e w' => e = .returned (.int .i64 (invM p a)) ∧ w = w' := by
  have HM : Hid (powM p a (p - 2).toNat = invM p a) := rfl
  go_enter Try.func102, Try.ntmps102
  go_wp2_with fail
  go_at_call 140
  refine (iPow_c p a _ (p - 2).toNat (by omega) _ h1 h2 ha (by omega)).mono ?_
  rintro e w' ⟨rfl, rfl⟩
  go_wp2
  go_ret
  exact ⟨ret_i64 HM.out, rfl⟩

set_option maxHeartbeats 400000 in
theorem sInv_c (p a : Int) (w : World) (hp : primeB p = true) (h3 : 0 < a) (h4 : a < p) :
    Calls Try.prog 151 #[.int .i64 p, .int .i64 a] w fun e w' => e = .returned (.int .i64 (invM p a)) ∧ w = w' := by
  have hb := primeB_bd hp
  obtain ⟨i1, i2, i3⟩ := invM_spec hp h3 h4
  have hu : ∀ j : Nat, (j : Int) < p → (a * j) % p = 1 → (j : Int) = invM p a := fun j hj h => invM_unique hp h3 h4 (by omega) hj h
  obtain ⟨I, hI⟩ := Int.eq_ofNat_of_zero_le i1
  rw [hI] at i2 i3 hu ⊢
  have hI0 : 1 ≤ I := by
    rcases Nat.eq_zero_or_pos I with e | e
    · subst e; simp at i3
    · exact e
  have HU := Lib.hid hu
  have HI := Lib.hid i3
  clear hu i3 hI hp i1
  have hp0 : p ≠ 0 := by omega
  go_enter Try.func151, Try.ntmps151
  go_wp2
  go_loopg [5] (I - 1) (fun g i wr => w = wr ∧ ∃ j : Nat, 1 ≤ j ∧ j ≤ I ∧ g = I - j ∧ i = .int .i64 j)
  case atStart => exact ⟨rfl, 1, Nat.le_refl _, hI0, rfl, rfl⟩
  case round =>
    obtain ⟨rfl, j, hj1, hj, rfl, rfl⟩ := hrel
    have hm := mul_bd (a := a) (b := (j : Int)) (by omega) (by omega)
    have ht : Int.tmod (a * (j : Int)) p = (a * (j : Int)) % p := Int.tmod_eq_emod_of_nonneg (Int.mul_nonneg (by omega) (by omega))
    by_cases hlt : j < I
    · have hne : (((a * (j : Int)) % p) != 1) = true := by
        rw [bne_iff_ne]; intro e
        have := HU.out j (by omega) e
        omega
      go_wp2
      go_roundg (I - (j + 1))
      case measure => omega
      case rel => exact ⟨rfl, j + 1, by omega, by omega, rfl, by go_num⟩
    · obtain rfl : j = I := by omega
      have hne : (((a * (j : Int)) % p) != 1) = false := by rw [HI.out]; rfl
      go_wp2
      go_ret
      exact ⟨rfl, rfl⟩

set_option maxRecDepth 100000 in
set_option maxHeartbeats 1000000 in
theorem iNorm_c (p : Int) (sv xv : Value) (n : Nat) (s X : Nat → Int) (w : World) (hd : DV w sv p n s) (hx : El w xv p n X) :
    Calls Try.prog 84 #[dbl p sv, xv] w fun e w' => Makes w w' e (.int .i64 (normF p s n X)) := by
  obtain ⟨ao, c, _, _, rfl, _⟩ := hd.ints.out
  obtain ⟨e0, e1, e2, e3⟩ := box0 w p ao n c 26
  have HV : Hid (∀ W, Below w.heap.size w W → DV W (.slice ao n c) p n s) := fun W hb => hd.below hb
  have HX : Hid (∀ W, Below w.heap.size w W → El W xv p n X) := fun W hb => hx.below hb
  obtain ⟨_, hp1, hp2, hn4, _⟩ := hd
  have hp16 := pow_le hn4
  have hM : 0 < 2 ^ n := hx.pos
  have hM1 : (0 : Int) < ((2 ^ n : Nat) : Int) := by omega
  have hM2 : (0 : Int) < 2 ^ n := by rw [show ((2 : Int) ^ n) = ((2 ^ n : Nat) : Int) by simp]; exact hM1
  have hci := conjF_in (p := p) (by omega) hx.inp
  have HCI := Lib.hid hci
  obtain ⟨R, hR⟩ : ∃ R, mulF p s n X (conjF p X) 0 = R := ⟨_, rfl⟩
  have HR := Lib.hid hR
  have HC : Hid (normF p s n X = R) := by unfold normF; exact hR
  clear hx hR hci
  go_enter Try.func84, Try.ntmps84
  go_wp2
  go_region_law (first
        | (go_simp; go_at_call 91; refine (iTimes_c p _ _ _ n s X (conjF p X) _ (HV.out _ b2) (HX.out _ b2) ⟨hO2.ints, HCI.out⟩).mono ?_; rintro e w3 ⟨g3, c3, rfl, hg3, hb3, hO3, hE3⟩; have hz3 := hO3.cell hM; rw [HR.out] at hz3; have b3 := b2.trans (hb3.mono b2.size); have q0 := cellKp hb3 k0; have q1 := cellKp hb3 k1)
        | (go_simp; go_at_call 97; refine (iConj_c _ _ _ _ _ (HX.out _ b1).ints hM (by omega) hp1 hp2 ((HX.out _ b1).inp.sm hp2)).mono ?_; rintro e w2 ⟨g2, c2, rfl, hg2, hb2, hO2⟩; have bx2 := boxKeep hb2 ⟨j0, j1, j2, b1⟩; obtain ⟨k0, k1, k2, b2⟩ := bx2)
        | (go_simp; go_at_call 80; refine Calls.makes' (iField_c _ _ _) _ fun w1 hb1 => ?_; have bx1 := boxKeep hb1 (boxDrew ⟨e0, e1, e2, e3⟩); obtain ⟨j0, j1, j2, b1⟩ := bx1))
  all_goals go_wp2
  all_goals go_ret
  all_goals exact ⟨ret_i64 HC.out.symm, b3⟩

/-- Append of a list, as a step of a region that draws its order. -/
theorem step_app {P : Program} {ops : Array Oper} {o : Oper} {a : Act} {w : World} {K : Act → World → Prop} {Q : Exit → Act → World → Prop} {E : Prop} (hgd : o.guard = none) (s x : Operand) (t e : TypeId) {z : Value} {bytes : Nat} (el : Elem P t e z bytes)
    (ho : o.op = .call { callee := .builtin .append, args := #[s, x], argTypes := #[t, t] })
    {g cap n : Nat} {V : Nat → Value} (hown : Own w e g cap n V) (hs : a.eval s = .slice (some ⟨g, 0, none⟩) n cap)
    (b off m c : Nat) (N : Nat → Value) (hx : a.eval x = .slice (some ⟨b, off, none⟩) m c) (hN : ∀ j, j < m → w.cell? ⟨b, off + j, none⟩ = some (N j)) (h1 : ∀ j, j < m → (N j).oneCell' = true)
    (h63 : n + m ≤ 9223372036854775807) (hbytes : (n + m) * bytes ≤ 140737488355328)
    (h : ∀ g' cap' w', Own w' e g' cap' (n + m) (fun j => if j < n then V j else N (j - n)) → (g' = g ∨ g' = w.heap.size) → w.grownBy w' (some g) → K (a.put o.dst (.slice (some ⟨g', 0, none⟩) (n + m) cap')) w') :
    if Region.wanted o (yielded ops a.tmps) = true then Oper.wp P o a w K Q else E := by
  have hw : Region.wanted o (yielded ops a.tmps) = true := by simp [Region.wanted, hgd]
  rw [if_pos hw]
  obtain ⟨g', cap', w', hr, h2, h3, h4⟩ := run_app (P := P) w el o.type hown b off m c N hN h1 h63 hbytes
  unfold Oper.wp execOp
  simp only [ho, resolve, invoke, builtin, Sem.run_bind, Sem.run_pure, Result.andThen_ok, List.map_toArray, List.map_cons, List.map_nil, hs, hx, hr, Oper.upon_value]
  exact h g' cap' w' h2 h3 h4

theorem grown_cell {w w' : World} {g b o : Nat} {v : Value} (h : w.grownBy w' (some g)) (hn : b ≠ g) (hc : w.cell? ⟨b, o, none⟩ = some v) : w'.cell? ⟨b, o, none⟩ = some v := by
  have e : w'.cell? ⟨b, o, none⟩ = w.cell? ⟨b, o, none⟩ := World.cell?_of_block (h.block b (lt_of_cell hc) (fun e => by injection e with e; exact hn e))
  rw [e]; exact hc
theorem boxGrown {w w4 w9 : World} {p : Int} {ao : Option Addr} {n c g : Nat} (h : w4.grownBy w9 (some g)) (hg : w.heap.size < g) (hb : BoxD w p ao n c w4) : BoxD w p ao n c w9 :=
  ⟨grown_cell h (by omega) hb.1, grown_cell h (by omega) hb.2.1, by have := h.size; have := hb.2.2.1; omega, hb.2.2.2.grown h hb.2.2.2.size (fun k e => by injection e with e; omega)⟩

/-- the diagonal's numbers in the order of the spec's list -/
theorem dgF_lt {p : Int} {s : Nat → Int} {k i : Nat} (h : i < 2 ^ k) : dgF p s (k + 1) i = dgF p s k i := by rw [dgF, if_pos h]
theorem dgF_ge {p : Int} {s : Nat → Int} {k i : Nat} (h : ¬ i < 2 ^ k) : dgF p s (k + 1) i = ((p - s k) * dgF p s k (i - 2 ^ k)) % p := by rw [dgF, if_neg h]

set_option maxRecDepth 100000 in
set_option maxHeartbeats 1000000 in
theorem sDiag_c (p : Int) (sv : Value) (n : Nat) (s : Nat → Int) (w : World) (hd : DV w sv p n s) (hp : 2 ≤ p) (hst : ∀ i, i < n → 1 ≤ s i ∧ s i ≤ p - 1) :
    Calls Try.prog 78 #[dbl p sv] w fun e w' => CopyI w w' e (2 ^ n) (dgF p s n) := by
  obtain ⟨hints, hp1, hp2, hn4, hsm⟩ := hd
  obtain ⟨ao, c, b, o, rfl, p2, p3, p4, p5⟩ := hints.out
  have P5 := Lib.hid p5
  have HS := Lib.hid hst
  obtain ⟨e0, e1, e2, e3⟩ := box0 w p ao n c 26
  have BX := Lib.hid (box0 w p ao n c 26)
  have hone : Own ((w.alloc (.cells #[.int .i64 p, .slice ao n c] 26)).alloc (.cells #[.int .i64 1] 2)) 2 (w.heap.size + 1) 1 1 (fun i => .int .i64 (dgF p s 0 i)) := by
    have h := Own.new (w.alloc (.cells #[.int .i64 p, .slice ao n c] 26)) 2 #[.int .i64 1] (fun i => .int .i64 (dgF p s 0 i)) (by simp) (fun i hi => by
      obtain rfl : i = 0 := by simp at hi; omega
      rfl)
    simpa using h
  have HO1 := Lib.hid hone
  have BA : Hid (BoxD w p ao n c ((w.alloc (.cells #[.int .i64 p, .slice ao n c] 26)).alloc (.cells #[.int .i64 1] 2))) := boxKeep ((Below.refl _ _).alloc (Nat.le_refl _) _) BX.out
  clear p5 hints hsm hst hone
  go_enter Try.func78, Try.ntmps78
  go_wp2
  go_loopg [3, 4] n (fun gg o i wr => ∃ k : Nat, k ≤ n ∧ gg = n - k ∧ i = .int .i64 k ∧ BoxD w p ao n c wr ∧ ∃ g2 c2 M, o = .slice (some ⟨g2, 0, none⟩) M c2 ∧ M = 2 ^ k ∧ w.heap.size + 1 ≤ g2 ∧ Own wr 2 g2 c2 M (fun i => .int .i64 (dgF p s k i)))
  case atStart => exact ⟨0, Nat.zero_le _, rfl, rfl, BA.out, w.heap.size + 1, 1, 1, by simp, rfl, Nat.le_refl _, HO1.out⟩
  case round =>
    obtain ⟨k, hk, rfl, rfl, ⟨f0, f1, f2, f3⟩, g2, c2, M, rfl, hM, hg2, hO⟩ := hrel
    clear e0 e1 e2 e3
    have BXr := Lib.hid (show BoxD w p ao n c wr from ⟨f0, f1, f2, f3⟩)
    have HM := Lib.hid hM
    have hM16 : M ≤ 16 := hM ▸ pow_le (by omega)
    clear hM
    by_cases hlt : k < n
    · obtain rfl := p4 (by omega)
      have hl0 := lt_of_cell (P5.out k hlt)
      have f4 : wr.cell? ⟨b, o + k, none⟩ = some (.int .i64 (s k)) := by rw [f3.cell (p := ⟨b, o + k, none⟩) hl0]; exact P5.out k hlt
      have hs := HS.out k hlt
      have hOd := hO.drew
      have bx := boxDrew BXr.out
      have hsm : Sm M (dgF p s k) := fun i _ => by have := dgF_in (p := p) (by omega) s k i; omega
      have HSM := Lib.hid hsm
      have i0 : (0 : Int) ≤ (k : Int) := by omega
      have i1 : (k : Int) < (n : Int) := by omega
      have hwr : IntKind.i64.wrap (p - s k) = p - s k := wrap_in _ (by omega)
      clear hsm
      go_wp2
      go_region_law (first
        | (go_simp; go_at_call 134; refine (sScale_c _ _ _ _ _ _ hOd.ints (by omega) hp1 hp2 HSM.out (by omega)).mono ?_; rintro e w4 ⟨g4, c4, rfl, hg4, hb4, hO4⟩; have hO5 := hOd.kept hb4; have hcells := hO4.cells0; have bx4 := boxKeep hb4 bx)
        | (refine step_app rfl _ _ _ _ elI rfl hO5 rfl g4 0 M c4 _ rfl hcells (fun _ _ => rfl) (by omega) (by omega) ?_; intro g9 c9 w9 hO9 hg9 hgr9))
      all_goals go_wp2
      all_goals go_roundg (n - (k + 1))
      all_goals first
        | omega
        | (have e := HM.out
           have hz4 := hb4.size
           have b4 := bx4.2.2.2
           have b9 : Below w.heap.size w w9 := b4.grown hgr9 b4.size (fun k e => by injection e with e; omega)
           have bx9 := boxGrown hgr9 (by omega) bx4
           refine ⟨k + 1, by omega, rfl, by go_num, bx9, g9, c9, M + M, rfl, by rw [Nat.pow_succ, ← e]; omega, ?_, hO9.congr fun i hi => ?_⟩
           · have t : wr.heap.size ≤ w4.heap.size := hz4
             have t2 := f3.size
             omega
           · show _ = Value.int .i64 (dgF p s (k + 1) i)
             by_cases e2 : i < M
             · rw [if_pos e2, dgF_lt (by rw [← e]; exact e2)]
             · rw [if_neg e2, dgF_ge (by rw [← e]; exact e2), ← e])
    · obtain rfl : k = n := by omega
      obtain rfl := HM.out
      go_wp2
      go_ret
      exact ⟨g2, c2, rfl, by omega, f3, hO⟩

set_option maxRecDepth 100000 in
set_option maxHeartbeats 1000000 in
theorem sNorm_c (p : Int) (sv xv : Value) (n : Nat) (s X : Nat → Int) (w : World) (hd : DV w sv p n s) (hx : El w xv p n X) (hp : 2 ≤ p) (hst : ∀ i, i < n → 1 ≤ s i ∧ s i ≤ p - 1) :
    Calls Try.prog 112 #[dbl p sv, xv] w fun e w' => Makes w w' e (.int .i64 (normF p s n X)) := by
  obtain ⟨ao, c, _, _, rfl, _⟩ := hd.ints.out
  obtain ⟨e0, e1, e2, e3⟩ := box0 w p ao n c 26
  have HD := Lib.hid (hd.below e3)
  have BX := Lib.hid (box0 w p ao n c 26)
  obtain ⟨_, hp1, hp2, hn4, _⟩ := hd
  obtain ⟨M, hM⟩ : ∃ M, 2 ^ n = M := ⟨_, rfl⟩
  have hM16 : M ≤ 16 := hM ▸ pow_le hn4
  obtain ⟨hints, hinp⟩ := hx
  rw [hM] at hints hinp
  obtain ⟨xa, xc, b, o, rfl, p2, p3, p4, p5⟩ := hints.out
  have P5 := Lib.hid p5
  have HI := Lib.hid hinp
  have HN : Hid (nsF p (fun i => dgF p s n i * X i * X i) M = normF p s n X) := hM ▸ norm_sum p s n X
  have HMM := Lib.hid hM
  have HST := Lib.hid hst
  clear p5 hints hinp hM hst
  go_enter Try.func112, Try.ntmps112
  go_wp2_with fail
  go_at_call 78
  refine (sDiag_c p _ n s _ HD.out hp HST.out).mono ?_
  rintro e w1 ⟨g1, c1, rfl, hg1, hb1, hO1⟩
  rw [HMM.out] at hO1
  rw [HMM.out]
  obtain ⟨f0, f1, f2, f3⟩ := boxKeep hb1 BX.out
  have HO := Lib.hid hO1
  have BX1 := Lib.hid (show BoxD w p ao n c w1 from ⟨f0, f1, f2, f3⟩)
  clear e0 e1 e2 e3 hO1 hb1
  go_wp2
  go_loopg [6, 7] M (fun g u i wr => ∃ k : Nat, k ≤ M ∧ g = M - k ∧ i = .int .i64 k ∧ u = .int .i64 (nsF p (fun i => dgF p s n i * X i * X i) k) ∧ Below w1.heap.size w1 wr)
  case atStart => exact ⟨0, Nat.zero_le _, rfl, rfl, rfl, Below.refl _ _⟩
  case round =>
    obtain ⟨k, hk, rfl, rfl, rfl, hbr⟩ := hrel
    have y0 := cellKp hbr f0
    have fr : Below w.heap.size w wr := f3.trans (hbr.mono f3.size)
    clear f0 f1
    by_cases hlt : k < M
    · obtain rfl := p4 (by omega)
      have z1 : wr.cell? ⟨g1, k, none⟩ = some (.int .i64 (dgF p s n k)) := (HO.out.kept hbr).cell hlt
      have hl := lt_of_cell (P5.out k hlt)
      have z2 : wr.cell? ⟨b, o + k, none⟩ = some (.int .i64 (X k)) := by rw [fr.cell (p := ⟨b, o + k, none⟩) hl]; exact P5.out k hlt
      have hd1 := dgF_in (p := p) (by omega) s n k
      have hx1 := HI.out k hlt
      have hs1 := nsF_in (p := p) (by omega) (fun i => dgF p s n i * X i * X i) k
      have hm1 := mul_bd (a := dgF p s n k) (b := X k) (by omega) (by omega)
      have hm2 : -1000000000 ≤ dgF p s n k * X k * X k ∧ dgF p s n k * X k * X k ≤ 1000000000 := by
        have h := Nat.mul_le_mul (show (dgF p s n k * X k).natAbs ≤ 1000000 by omega) (show (X k).natAbs ≤ 1000 by omega)
        rw [← Int.natAbs_mul] at h
        omega
      have HE : Hid ((nsF p (fun i => dgF p s n i * X i * X i) k + dgF p s n k * X k * X k) % p = nsF p (fun i => dgF p s n i * X i * X i) (k + 1)) := rfl
      have i0 : (0 : Int) ≤ (k : Int) := by omega
      have i1 : (k : Int) < (M : Int) := by omega
      go_wp2
      go_quiet ((go_at_call 82; exact Calls.pure (sMod_c _ _ _ hp1 hp2 (by omega) (by omega))))
      go_wp2
      go_roundg (M - (k + 1))
      case measure => omega
      case rel => exact ⟨k + 1, by omega, rfl, by go_num, by rw [HE.out], hbr.trans ((below_drewN _ _).mono hbr.size)⟩
    · obtain rfl : k = M := by omega
      go_wp2
      go_ret
      exact ⟨ret_i64 HN.out, fr⟩

end Go.Proofs.Ytnnacligfoonbaa
