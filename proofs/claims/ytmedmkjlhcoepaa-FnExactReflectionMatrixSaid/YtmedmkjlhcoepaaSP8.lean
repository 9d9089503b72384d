/-
  The matrix of a reflection, by the reference; ReflectionMatrix, in both programs. No condition beside sizes.
-/
import Derived.Test.YtmedmkjlhcoepaaSP7
import Derived.Test.YtmedmkjlhcoepaaD31
import Derived.Test.YtmedmkjlhcoepaaD40
set_option linter.unusedVariables false
set_option linter.unusedSimpArgs false
namespace Go.Proofs.Ytmedmkjlhcoepaa
open Go.RowKit

set_option maxHeartbeats 1000000 in
theorem sTurn_c (v : Value) (G M : Nat) (L : Nat → Nat) (T : Nat → Nat → Int) (w : World) (h : Tab w v G L T) (hG : 1 ≤ G) (hG2 : G ≤ 1048576) (hM : M ≤ 1048576) (hL0 : L 0 = M) (hL : ∀ i, i < G → M ≤ L i) :
    Calls Try.prog 118 #[v] w fun e w' => CopyT w w' e M (fun _ => G) (fun k i => T i k) := by
  obtain ⟨ao, c, b, o, A, C, RB, RO, rfl, p2, p3, p4, p5, p6, p7, p8⟩ := h.out
  clear h
  obtain rfl := p4 (by omega)
  have e0 : w.cell? ⟨b, o, none⟩ = some (.slice (A 0) M (C 0)) := by rw [show o = o + 0 from rfl, p5 0 (by omega), hL0]
  have hG0 : (0 : Int) < (G : Int) := by omega
  have hbl : b < w.heap.size := lt_of_cell e0
  have E0 := Lib.hid e0
  have P5 := Lib.hid p5
  have P7 := Lib.hid p7
  have P8 := Lib.hid p8
  have HL := Lib.hid hL
  clear p4 p5 p6 p7 p8 hL hL0 e0
  go_enter Try.func118, Try.ntmps118
  go_wp2
  go_loopg [3, 4] M (fun g s i wr => ∃ k : Nat, k ≤ M ∧ g = M - k ∧ i = .int .i64 k ∧ ∃ g' c', s = .slice (some ⟨g', 0, none⟩) k c' ∧ Below w.heap.size w wr ∧ OTab wr w.heap.size g' c' k (fun _ => G) (fun k i => T i k))
  case atStart => exact ⟨0, Nat.zero_le _, rfl, rfl, _, _, rfl, (Below.refl _ _).alloc (Nat.le_refl _) _, ⟨fun _ => 0, fun _ => 0, Own.empty _ _ _, Nat.le_refl _, fun i hi => absurd hi (Nat.not_lt_zero _), fun i j hi => absurd hi (Nat.not_lt_zero _)⟩⟩
  case round =>
    obtain ⟨k, hk, rfl, rfl, g', c', rfl, hb, hT⟩ := hrel
    have e0 : wr.cell? ⟨b, o, none⟩ = some (.slice (A 0) M (C 0)) := by rw [hb.cell (p := ⟨b, o, none⟩) hbl]; exact E0.out
    by_cases hlt : k < M
    · go_wp2
      clear e0
      obtain ⟨wo, hwo⟩ : ∃ wo, wo = wr := ⟨_, rfl⟩
      rw [← hwo] at hb hT ⊢
      clear hwo
      have hbs := hb.size
      go_loopg [5, 6] G (fun g s i wr => ∃ j : Nat, j ≤ G ∧ g = G - j ∧ i = .int .i64 j ∧ ∃ g2 c2, s = .slice (some ⟨g2, 0, none⟩) j c2 ∧ wo.heap.size ≤ g2 ∧ Below wo.heap.size wo wr ∧ Own wr 2 g2 c2 j (fun i => .int .i64 (T i k)))
      case atStart => exact ⟨0, Nat.zero_le _, rfl, rfl, _, _, rfl, Nat.le_refl _, (Below.refl _ _).alloc (Nat.le_refl _) _, Own.empty _ _ _⟩
      case round =>
        obtain ⟨j, hj, rfl, rfl, g2, c2, rfl, hg2, hb2, hO⟩ := hrel
        by_cases hlt2 : j < G
        · have hkL : k < L j := by have := HL.out j hlt2; omega
          have hbb := hb.trans (hb2.mono hbs)
          have e1 : wr.cell? ⟨b, o + j, none⟩ = some (.slice (some ⟨RB j, RO j, none⟩) (L j) (C j)) := by
            rw [hbb.cell (p := ⟨b, o + j, none⟩) (lt_of_cell (P5.out j hlt2)), P5.out j hlt2, P7.out j hlt2 (by omega)]
          have e2 : wr.cell? ⟨RB j, RO j + k, none⟩ = some (.int .i64 (T j k)) := by
            rw [hbb.cell (p := ⟨RB j, RO j + k, none⟩) (lt_of_cell (P8.out j k hlt2 hkL)), P8.out j k hlt2 hkL]
          go_wp2_with (at_builtin; refine wpList_push _ rfl _ _ _ _ elI rfl hO (.int .i64 (T j k)) rfl rfl rfl (by omega) (by omega) ?_; rotate_right; intro g3 c3 w3 hO3 hg3 hgr3)
          go_roundg (G - (j + 1))
          case measure => omega
          case rel =>
            have hlt4 := hb2.size
            refine ⟨j + 1, by omega, rfl, by go_num, g3, c3, rfl, by omega, hb2.grown hgr3 hlt4 (fun k e => by injection e with e; omega), hO3.congr fun i hi => ?_⟩
            by_cases e2 : i = j
            · subst e2; simp
            · simp [e2]
        · obtain rfl : j = G := by omega
          obtain ⟨V, hV, hpush⟩ := hT.pushAt hbs
          have hV2 := hV.kept hb2
          have HP := Lib.hid hpush
          clear hpush
          go_wp2_with (at_builtin; refine wpList_push _ rfl _ _ _ _ elR rfl hV2 (.slice (some ⟨g2, 0, none⟩) j c2) rfl rfl rfl (by omega) (by omega) ?_; intro g3 c3 w3 hO3 hg3 hgr3)
          have hs2 := hb2.size
          have hgB := hT.base
          go_roundg (M - (k + 1))
          case measure => omega
          case rel => exact ⟨k + 1, by omega, rfl, by go_num, g3, c3, rfl, (hb.trans (hb2.mono hbs)).grown hgr3 (by omega) (fun k e => by injection e with e; omega), (HP.out _ _ _ _ _ _ _ _ hb2 hO hg2 hO3 hg3 hgr3).congr (fun i hi => by by_cases e : i = k <;> simp [e]) (fun i j hi hj => by by_cases e : i = k <;> simp [e])⟩
    · obtain rfl : k = M := by omega
      go_wp2
      go_ret
      exact ⟨g', c', rfl, hb, hT⟩

set_option maxRecDepth 100000 in
set_option maxHeartbeats 2000000 in
theorem sReflection_c (p : Int) (sv uv : Value) (n : Nat) (s U : Nat → Int) (w : World) (hd : SV w sv p n s) (hu : Vc w uv p n U) (hz : pairF p s n U U ≠ 0) :
    Calls Try.prog 71 #[dbl p sv, uv] w fun e w' => CopyT w w' e n (fun _ => n) (reflT p s n U) := by
  have HV : Hid (∀ W, Below w.heap.size w W → SV W sv p n s) := fun W hb => hd.below hb
  have HU : Hid (∀ W, Below w.heap.size w W → Vc W uv p n U) := fun W hb => hu.below hb
  have hpb := hd.ok.bd
  have hn6 := hd.ok.n6
  have hn1 := hd.ok.n1
  have HZ := Lib.hid hz
  obtain ⟨ao, c, _, _, rfl, p2, p3, qq⟩ := hd.ints.out
  obtain ⟨ua, uc, _, _, rfl, u2, u3, qu⟩ := hu.ints.out
  clear qq qu hd hu hz
  obtain ⟨e0, e1, e2, e3⟩ := box0 w p ao n c 30
  have BX := Lib.hid (box0 w p ao n c 30)
  have hT0 : OTab ((w.alloc (.cells #[.int .i64 p, .slice ao n c] 30)).alloc (.cells #[] 22)) (w.heap.size + 1) (w.heap.size + 1) 0 0 (fun _ => n) (fun j i => reflT p s n U i j) := by
    have h := OTab.empty (w.alloc (.cells #[.int .i64 p, .slice ao n c] 30))
    rw [alloc_size] at h
    exact h.congr (fun i hi => absurd hi (Nat.not_lt_zero _)) (fun i j hi => absurd hi (Nat.not_lt_zero _))
  have bA : Below (w.alloc (.cells #[.int .i64 p, .slice ao n c] 30)).heap.size (w.alloc (.cells #[.int .i64 p, .slice ao n c] 30)) ((w.alloc (.cells #[.int .i64 p, .slice ao n c] 30)).alloc (.cells #[] 22)) := (Below.refl _ _).alloc (Nat.le_refl _) _
  have BXA := Lib.hid (boxKeep bA BX.out)
  have HT0 := Lib.hid hT0
  clear hT0 bA
  go_enter Try.func71, Try.ntmps71
  go_wp2
  go_loopg [5, 6] n (fun g o i wr => ∃ k : Nat, k ≤ n ∧ g = n - k ∧ i = .int .i64 k ∧ BoxD w p ao n c wr ∧ ∃ g' c', o = .slice (some ⟨g', 0, none⟩) k c' ∧ OTab wr (w.heap.size + 1) g' c' k (fun _ => n) (fun j i => reflT p s n U i j))
  case atStart => exact ⟨0, Nat.zero_le _, rfl, rfl, BXA.out, _, _, rfl, HT0.out⟩
  case round =>
    obtain ⟨k, hk, rfl, rfl, ⟨f0, f1, f2, f3⟩, g', c', rfl, hT⟩ := hrel
    have BXr := Lib.hid (show BoxD w p ao n c wr from ⟨f0, f1, f2, f3⟩)
    clear e0 e1 e2 e3
    by_cases hlt : k < n
    · obtain ⟨V, hV, hpush⟩ := hT.pushAt (show w.heap.size + 1 ≤ wr.heap.size by omega)
      have HP := Lib.hid hpush
      have hgB := hT.base
      have hgl := hT.lt
      clear hpush
      go_wp2_with (first
        | (at_make; refine wpList_mkA _ rfl _ _ _ _ elI rfl rfl .i64 .i64 n rfl rfl (by omega) (by omega) ?_; intro W2 hB2 hS2 hO2; have HS2 := Lib.hid hS2; clear hS2
           have hcu := hO2.cell hlt
           have hcf := hO2.frozen k
           have y0 := cellKp hB2 f0
           have y1 := cellKp hB2 f1
           have bS1 : Below wr.heap.size wr (W2.setCell ⟨wr.heap.size, k, none⟩ (.int .i64 1)) := hB2.setCell (Nat.le_refl _) _
           have bS : Below w.heap.size w (W2.setCell ⟨wr.heap.size, k, none⟩ (.int .i64 1)) := f3.trans (bS1.mono f3.size)
           have y2 : (W2.setCell ⟨wr.heap.size, k, none⟩ (.int .i64 1)).cell? ⟨w.heap.size, 0, none⟩ = some (.int .i64 p) := cellKp bS1 f0
           have y3 : (W2.setCell ⟨wr.heap.size, k, none⟩ (.int .i64 1)).cell? ⟨w.heap.size, 1, none⟩ = some (.slice ao n c) := cellKp bS1 f1
           have hOs : Own (W2.setCell ⟨wr.heap.size, k, none⟩ (.int .i64 1)) 2 wr.heap.size n n (fun j => .int .i64 (dlt k j)) := (hO2.set k _).congr fun j hj => by unfold dlt; by_cases e : j = k <;> simp [e])
        | (go_at_call 68; refine (sRefl_c p _ _ _ n s U (dlt k) _ (HV.out _ bS) (HU.out _ bS) ⟨hOs.ints, dlt_in (by omega) _ _⟩ HZ.out).mono ?_; rintro e w4 ⟨g4, c4, rfl, hg4, hb4, hO4⟩
           have bb := bS1.trans (hb4.mono bS1.size)
           have hV2 := hV.kept bb
           have bs4 := bb.size)
        | (at_builtin; refine wpList_push _ rfl _ _ _ _ elR rfl hV2 (.slice (some ⟨g4, 0, none⟩) n c4) rfl rfl rfl (by omega) (by omega) ?_; intro g3 c3 w3 hO3 hg3 hgr3))
      have bx4 := Lib.hid (boxKeep bb BXr.out)
      have bz1 := bS1.size
      go_roundg (n - (k + 1))
      case measure => omega
      case rel => exact ⟨k + 1, by omega, rfl, by go_num, boxGrown hgr3 (by omega) bx4.out, g3, c3, rfl, (HP.out _ _ _ _ _ _ _ _ bb hO4 (by omega) hO3 hg3 hgr3).congr (fun i hi => by by_cases e : i = k <;> simp [e]) (fun i j hi hj => by
          by_cases e : i = k
          · subst e; simp [reflT]
          · simp [e])⟩
    · obtain rfl : k = n := by omega
      go_wp2_with fail
      go_at_call 118
      refine (sTurn_c _ k k _ _ _ hT.tab hn1 (by omega) (by omega) rfl (fun i hi => Nat.le_refl _)).mono ?_
      rintro e w4 ⟨g4, c4, rfl, hb4, hT4⟩
      go_wp2
      go_ret
      exact ⟨g4, c4, rfl, f3.trans (hb4.mono f3.size), hT4.mono f3.size⟩


end Go.Proofs.Ytmedmkjlhcoepaa
