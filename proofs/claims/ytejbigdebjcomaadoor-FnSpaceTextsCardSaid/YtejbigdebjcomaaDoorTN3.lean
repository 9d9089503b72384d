/-
  The source of draws with its exact state; a text that is spoilt. Conditions: sizes.
-/
import Derived.Test.YtejbigdebjcomaaDoorTN2
import Derived.Test.YtejbigdebjcomaaDoorTP4
set_option linter.unusedVariables false
set_option linter.unusedSimpArgs false
set_option maxRecDepth 100000
namespace Go.Proofs.YtejbigdebjcomaaDoor
open Go.RowKit


/-- the source's three cells -/
def srV (cv : Value) (k : Nat) (h : Int) : Nat → Value := fun i => if i = 0 then cv else if i = 1 then .int .i64 k else .int .u64 h

/-- the source at block g, its state -/
structure SrcX (w : World) (g : Nat) (cv : Value) (n k : Nat) (h : Int) : Prop where
  kn : k ≤ n
  own : Own w 79 g 3 3 (srV cv k h)

theorem Src.x {w : World} {g : Nat} {cv : Value} {n : Nat} (H : Src w g cv n) : ∃ k h, SrcX w g cv n k h := by
  obtain ⟨k, h, h1, h2⟩ := H.out
  exact ⟨k, h, h1, h2⟩

theorem SrcX.kept {w w' : World} {g : Nat} {cv : Value} {n k : Nat} {h : Int} (H : SrcX w g cv n k h) (hb : Below w.heap.size w w') : SrcX w' g cv n k h := ⟨H.kn, H.own.kept hb⟩

theorem and24_eq (x : Int) (h0 : 0 ≤ x) (h1 : x < 4294967296) : bits .and .u64 x 16777215 = x % 16777216 := by
  obtain ⟨n, rfl⟩ := Int.eq_ofNat_of_zero_le h0
  have hb : IntKind.u64.bits = 64 := rfl
  unfold bits
  simp only
  have e1 : (BitVec.ofInt IntKind.u64.bits (n : Int) &&& BitVec.ofInt IntKind.u64.bits 16777215).toNat = n % 16777216 := by
    rw [BitVec.toNat_and, hb]
    have e2 : (BitVec.ofInt 64 (n : Int)).toNat = n := by
      rw [BitVec.toNat_ofInt]; omega
    have e3 : (BitVec.ofInt 64 16777215).toNat = 2 ^ 24 - 1 := by decide
    rw [e2, e3, Nat.and_two_pow_sub_one_eq_mod]
  rw [e1, IntKind.wrap_u64]
  omega

theorem fL_wrap (h : Int) : IntKind.u64.wrap (IntKind.u64.wrap (h * 6364136223846793005) + 1442695040888963407) = fL h := by
  rw [IntKind.wrap_u64, IntKind.wrap_u64]; unfold fL; omega

theorem fL_bd (h : Int) : 0 ≤ fL h ∧ fL h < 18446744073709551616 := by unfold fL; omega

theorem xD_bits (h : Int) : bits .and .u64 (fL h / 8589934592) 16777215 = xD (fL h) := by
  have := fL_bd h
  rw [and24_eq _ (by omega) (by omega)]; rfl


set_option maxRecDepth 100000 in
set_option maxHeartbeats 1000000 in
theorem sNextX_c (g n : Nat) (cv : Value) (B : Nat → Int) (m : Int) (k : Nat) (h : Int) (w : World) (hs : SrcX w g cv n k h) (hB : Byt w cv n B) (hm : 1 ≤ m ∧ m ≤ 9223372036854775807) :
    Calls Tryd.prog 40 #[.pointer (some ⟨g, 0, none⟩), .int .i64 m] w fun e w' => ∃ x : Int, e = .returned (.int .i64 x) ∧ (0 ≤ x ∧ x < m) ∧ (k = n → x = xD (fL h) % m) ∧ SrcX w' g cv n (min (k + 1) n) (fL h) ∧ Chg w w' (· = g) := by
  obtain ⟨hk, hO⟩ := hs
  obtain ⟨ao, c, b, o, rfl, p2, p3, p4, p5⟩ := hB.out
  have hm1 : 1 ≤ m := hm.1
  have hm2 : ¬ m < 1 := by omega
  have z0 := hO.cell (show 0 < 3 by omega)
  have z1 := hO.cell (show 1 < 3 by omega)
  have z2 := hO.cell (show 2 < 3 by omega)
  have zf := hO.frozen 2
  simp [srV] at z0 z1 z2
  have hwr := fL_wrap h
  have hxb := xD_bits h
  obtain ⟨hh, hhe⟩ : ∃ hh, fL h = hh := ⟨_, rfl⟩
  have hhb := fL_bd h
  rw [hhe] at hwr hxb hhb ⊢
  clear hhe
  go_enter Tryd.func40, Tryd.ntmps40
  go_wp2
  have hx : 0 ≤ xD hh ∧ xD hh ≤ 16777215 := by unfold xD; omega
  (try rw [hwr])
  (try rw [hxb])
  obtain ⟨x0, hx0⟩ : ∃ x0, xD hh = x0 := ⟨_, rfl⟩
  have HX0 : Hid (xD hh = x0) := hx0
  rw [hx0] at hx hxb ⊢
  have hw0 : wrap64 x0 = x0 := wrap64_in _ (by omega)
  (try rw [hw0])
  obtain ⟨w1, hw1⟩ : ∃ w1, w.setCell ⟨g, 2, none⟩ (.int .u64 hh) = w1 := ⟨_, rfl⟩
  have hO1 : Own w1 79 g 3 3 (srV (.slice ao n c) k hh) := by
    rw [← hw1]
    exact (hO.set 2 (.int .u64 hh)).congr fun i hi => by
      have h3 : i = 0 ∨ i = 1 ∨ i = 2 := by omega
      rcases h3 with rfl | rfl | rfl <;> rfl
  rw [hw1]
  have hc1 : Chg w w1 (· = g) := by rw [← hw1]; exact (Chg.refl w (· = g)).setCell (a := ⟨g, 2, none⟩) rfl (.int .u64 hh)
  have hm0 : m ≠ 0 := by omega
  have hwx : IntKind.i64.wrap x0 = x0 := wrap_in' _ (by omega)
  have z0 := hO1.cell (show 0 < 3 by omega)
  have z1 := hO1.cell (show 1 < 3 by omega)
  simp [srV] at z0 z1
  clear hw1 z2 zf hw0 hB hwr hxb hx0
  by_cases hkn : k < n
  · obtain ⟨y, hy⟩ : ∃ y, B k = y := ⟨_, rfl⟩
    have hb1 := p5 k hkn
    rw [hy] at hb1
    have hne : b ≠ g := src_ne hO (by simp) (by simp) (by simp) hb1.1
    have zb : w1.cell? ⟨b, o + k, none⟩ = some (.int .u8 y) := by rw [World.cell?_of_block (w := w) (hc1.block b (lt_of_cell hb1.1) hne)]; exact hb1.1
    obtain ⟨hby0, hby1⟩ := hb1.2
    obtain rfl := p4 (by omega)
    have hwy : IntKind.i64.wrap y = y := wrap_in' _ (by omega)
    have hws : IntKind.i64.wrap (x0 + y) = x0 + y := wrap_in' _ (by omega)
    have hwk : IntKind.i64.wrap ((k : Int) + 1) = (k : Int) + 1 := wrap_in' _ (by omega)
    have i0 : (0 : Int) ≤ (k : Int) := by omega
    have i1 : (k : Int) < (n : Int) := by omega
    have zf1 : ∀ q, (w1.drewN q).frozen? ⟨g, 1, none⟩ = false := fun q => (hO1.drewN q).frozen 1
    have ht := tmod_in (x := x0 + y) (m := m) (by omega) hm1
    have HO1 := Lib.hid hO1
    clear p5 hb1 hy hO hO1
    go_quiet (fail)
    go_wp2
    go_quiet (fail)
    go_wp2
    go_ret
    refine ⟨_, rfl, ?_, fun h => absurd h (by omega), ⟨by omega, ?_⟩, ?_⟩
    · rw [Int.tmod_eq_emod_of_nonneg (by omega)] at ht
      exact ht
    · rw [show min (k + 1) n = k + 1 by omega]
      exact ((HO1.out.drewN _).set 1 (.int .i64 ((k + 1 : Nat) : Int))).congr fun i hi => by
        have h3 : i = 0 ∨ i = 1 ∨ i = 2 := by omega
        rcases h3 with rfl | rfl | rfl <;> simp [srV]
    · exact hc1.trans ((Chg.of_below (below_drewN w1 _) (· = g)).setCell (a := ⟨g, 1, none⟩) rfl _)
  · have hkn2 : ¬ ((k : Int) < (n : Int)) := by omega
    have ht := tmod_in (x := x0) (m := m) (by omega) hm1
    have HO1 := Lib.hid hO1
    clear p5 hO hO1
    go_quiet (fail)
    go_wp2
    go_ret
    refine ⟨_, rfl, ?_, fun h => by rw [HX0.out, ← Int.tmod_eq_emod_of_nonneg (by omega)], ⟨by omega, ?_⟩, ?_⟩
    · rw [Int.tmod_eq_emod_of_nonneg (by omega)] at ht
      exact ht
    · rw [show min (k + 1) n = k by omega]
      exact HO1.out.drewN _
    · exact hc1.trans (Chg.of_below (below_drewN w1 _) _)


theorem Byt.chgX {w W : World} {g n k : Nat} {cv : Value} {h : Int} {B : Nat → Int} (hB : Byt w cv n B) (hO : SrcX w g cv n k h) (hc : Chg w W (· = g)) : Byt W cv n B := by
  obtain ⟨ao, c, b, o, rfl, h2, h3, h4, h5⟩ := hB.out
  refine ⟨ao, c, b, o, rfl, h2, h3, h4, fun i hi => ⟨?_, (h5 i hi).2⟩⟩
  have hne : b ≠ g := src_ne hO.own (by simp) (by simp) (by simp) (h5 i hi).1
  rw [World.cell?_of_block (w := w) (hc.block b (lt_of_cell (h5 i hi).1) hne)]; exact (h5 i hi).1

theorem Chg.cellG {W W' : World} {r b o : Nat} {v : Value} (hc : Chg W W' (· = r)) (hn : b ≠ r) (h : W.cell? ⟨b, o, none⟩ = some v) : W'.cell? ⟨b, o, none⟩ = some v := by
  rw [World.cell?_of_block (w := W) (hc.block b (lt_of_cell h) hn)]; exact h


/-- the signs -/
def sgA : Array Value := #[.string { data := #[48] }, .string { data := #[49] }, .string { data := #[50] }, .string { data := #[53] }, .string { data := #[57] }, .string { data := #[45] }, .string { data := #[43] }, .string { data := #[42] }, .string { data := #[94] }, .string { data := #[46] }, .string { data := #[126] }, .string { data := #[40] }, .string { data := #[41] }, .string { data := #[101] }, .string { data := #[32] }, .string { data := #[44] }, .string { data := #[101, 48] }, .string { data := #[101, 49] }, .string { data := #[120] }, .string { data := #[59] }, .string { data := #[58] }, .string { data := #[10] }]

def smS (v : Value) : Bool := match v with
  | .string c => decide (c.size ≤ 2)
  | _ => false

theorem sg_all : ∀ i : Fin 22, smS (sgA.getD i.val .nilIface) = true := by decide +kernel

theorem sg_at {i : Nat} (h : i < 22) : ∃ c : ByteArray, sgA.getD i .nilIface = .string c ∧ c.size ≤ 2 := by
  have h1 := sg_all ⟨i, h⟩
  simp only at h1
  cases e : sgA.getD i .nilIface <;> rw [e] at h1 <;> simp [smS] at h1
  exact ⟨_, rfl, h1⟩


/-- what a spoilt text is -/
structure Dmg (w w' : World) (e : Ending) (g : Nat) (cv : Value) (n k : Nat) (h : Int) (T : ByteArray) : Prop where
  out : ∃ T' : ByteArray, e = .returned (.string T') ∧ T'.size ≤ T.size + 2 ∧ ((T.size = 0 ∧ SrcX w' g cv n (min (k + 1) n) (itL 1 h)) ∨ (1 ≤ T.size ∧ SrcX w' g cv n (min (k + 3) n) (itL 3 h)))
  chg : Chg w w' (· = g)


set_option maxRecDepth 100000 in
set_option maxHeartbeats 4000000 in
theorem sDamage_c (g n : Nat) (cv : Value) (B : Nat → Int) (k : Nat) (h : Int) (T : ByteArray) (w : World) (hs : SrcX w g cv n k h) (hB : Byt w cv n B) (hT : T.size ≤ 1000000000) :
    Calls Tryd.prog 41 #[.pointer (some ⟨g, 0, none⟩), .string T] w fun e w' => Dmg w w' e g cv n k h T := by
  obtain ⟨W1, hW1⟩ : ∃ W1, w.alloc (.cells #[.string { data := #[48] }, .string { data := #[49] }, .string { data := #[50] }, .string { data := #[53] }, .string { data := #[57] }, .string { data := #[45] }, .string { data := #[43] }, .string { data := #[42] }, .string { data := #[94] }, .string { data := #[46] }, .string { data := #[126] }, .string { data := #[40] }, .string { data := #[41] }, .string { data := #[101] }, .string { data := #[32] }, .string { data := #[44] }, .string { data := #[101, 48] }, .string { data := #[101, 49] }, .string { data := #[120] }, .string { data := #[59] }, .string { data := #[58] }, .string { data := #[10] }] 9) = W1 := ⟨_, rfl⟩
  have hb1 : Below w.heap.size w W1 := hW1 ▸ (Below.refl _ _).alloc (Nat.le_refl _) _
  have hOS : Own W1 9 w.heap.size 22 22 (fun i => sgA.getD i .nilIface) := by
    rw [← hW1]
    exact Own.new w 9 sgA (fun i => sgA.getD i .nilIface) (by decide) fun i hi => by simp [Array.getD, hi]
  have hgl : g < w.heap.size := hs.own.lt
  have hs1 := hs.kept hb1
  have hB1 := hB.below hb1
  have hc1 : Chg w W1 (· = g) := Chg.of_below hb1 _
  have HN := Lib.hid (sNextX_c g n cv B 22 k h W1 hs1 hB1 (by omega))
  have HB1 := Lib.hid hB1
  have HS1 := Lib.hid hs1
  have HOS := Lib.hid hOS
  clear hb1 hOS hs1 hB1 hs hB
  go_enter Tryd.func41, Tryd.ntmps41
  go_wp2_with fail
  refine HN.out.mono ?_
  rintro e w2 ⟨x0, rfl, hx0, _, hs2, hc2⟩
  obtain ⟨X, rfl⟩ := Int.eq_ofNat_of_zero_le hx0.1
  obtain ⟨C, hC, hCs⟩ := sg_at (i := X) (by omega)
  have i0 : (0 : Int) ≤ (X : Int) := by omega
  have i1 : (X : Int) < 22 := hx0.2
  have zc : w2.cell? ⟨w.heap.size, X, none⟩ = some (.string C) := by
    refine hc2.cellG (by omega) ?_
    rw [HOS.out.cell (by omega), hC]
  have HB2 := Lib.hid (HB1.out.chgX HS1.out hc2)
  have hcc := Lib.hid (hc1.trans hc2)
  have HS2 := Lib.hid hs2
  have HCs := Lib.hid hCs
  clear hc1 hc2 hs2 hx0 hC hCs HN HOS hW1 HB1 HS1
  by_cases hT0 : T.size = 0
  · have hTb : ((T.size : Int) == 0) = true := by rw [hT0]; rfl
    have HT0 := Lib.hid hT0
    clear hT0
    go_wp2
    go_ret
    exact ⟨⟨C, rfl, by have := HCs.out; omega, Or.inl ⟨HT0.out, HS2.out⟩⟩, hcc.out⟩
  · have hTb : ((T.size : Int) == 0) = false := beq_eq_false_iff_ne.2 (by omega)
    have HN2 := Lib.hid (sNextX_c g n cv B T.size _ _ w2 HS2.out HB2.out (by omega))
    go_wp2_with fail
    refine HN2.out.mono ?_
    rintro e w3 ⟨x1, rfl, hx1, _, hs3, hc3⟩
    obtain ⟨K, rfl⟩ := Int.eq_ofNat_of_zero_le hx1.1
    have hK : K < T.size := by have := hx1.2; omega
    have HB3 := Lib.hid (HB2.out.chgX HS2.out hc3)
    have hcc3 := Lib.hid (hcc.out.trans hc3)
    have HN3 := Lib.hid (sNextX_c g n cv B 3 _ _ w3 hs3 HB3.out (by omega))
    clear HN2 hc3 zc hx1
    go_wp2_with fail
    refine HN3.out.mono ?_
    rintro e w4 ⟨x2, rfl, hx2, _, hs4, hc4⟩
    have hcc4 := Lib.hid (hcc3.out.trans hc4)
    have HS4 : Hid (SrcX w4 g cv n (min (k + 3) n) (itL 3 h)) := by
      have e : min (min (min (k + 1) n + 1) n + 1) n = min (k + 3) n := by omega
      rw [e] at hs4; exact hs4
    have hA := ext_size T 0 K
    obtain ⟨A, hAe⟩ : ∃ A, T.extract 0 K = A := ⟨_, rfl⟩
    obtain ⟨D, hDe⟩ : ∃ D, T.extract (K + 1) T.size = D := ⟨_, rfl⟩
    obtain ⟨E, hEe⟩ : ∃ E, T.extract K T.size = E := ⟨_, rfl⟩
    have sA : Hid (A.size = K) := by show A.size = K; rw [← hAe, ByteArray.size_extract]; omega
    have sD : Hid (D.size = T.size - K - 1) := by show D.size = _; rw [← hDe, ByteArray.size_extract]; omega
    have sE : Hid (E.size = T.size - K) := by show E.size = _; rw [← hEe, ByteArray.size_extract]; omega
    have HK := Lib.hid hK
    have HTs := Lib.hid hT
    have n1 : ¬ 9223372036854775807 < A.size + C.size := by have := sA.out; have := HCs.out; omega
    have n2 : ¬ 9223372036854775807 < A.size + C.size + D.size := by have := sA.out; have := HCs.out; have := sD.out; omega
    have n3 : ¬ 9223372036854775807 < A.size + D.size := by have := sA.out; have := sD.out; omega
    have n4 : ¬ 9223372036854775807 < A.size + C.size + E.size := by have := sA.out; have := HCs.out; have := sE.out; omega
    have wK : IntKind.i64.wrap ((K : Int) + 1) = (K : Int) + 1 := wrap_in' _ (by omega)
    have j0 : (0 : Int) ≤ (K : Int) := by omega
    have j1 : (K : Int) ≤ (T.size : Int) := by omega
    have j2 : (K : Int) + 1 ≤ (T.size : Int) := by omega
    have j3 : (0 : Int) ≤ (K : Int) + 1 := by omega
    have fin : ∀ T' : ByteArray, T'.size ≤ T.size + 2 → ∀ q, Dmg w (w4.drewN q) (.returned (.string T')) g cv n k h T := fun T' h1 q => ⟨⟨T', rfl, h1, Or.inr ⟨by omega, HS4.out.kept (below_drewN w4 q)⟩⟩, hcc4.out.trans (Chg.of_below (below_drewN w4 q) _)⟩
    have FIN := Lib.hid fin
    clear hs3 hs4 hc4 HN3 hA hcc hcc3 HB2 HB3 HS2 hK hT fin
    have h3 : x2 = 0 ∨ x2 = 1 ∨ x2 = 2 := by omega
    rcases h3 with rfl | rfl | rfl
    · go_wp2
      go_quiet (fail)
      go_wp2
      go_ret
      exact FIN.out _ (by rw [ByteArray.size_append, ByteArray.size_append]; have := sA.out; have := HCs.out; have := sD.out; have := HK.out; omega) _
    · go_wp2
      go_quiet (fail)
      go_wp2
      go_ret
      exact FIN.out _ (by rw [ByteArray.size_append]; have := sA.out; have := sD.out; have := HK.out; omega) _
    · go_wp2
      go_quiet (fail)
      go_wp2
      go_ret
      exact FIN.out _ (by rw [ByteArray.size_append, ByteArray.size_append]; have := sA.out; have := HCs.out; have := sE.out; have := HK.out; omega) _

end Go.Proofs.YtejbigdebjcomaaDoor
