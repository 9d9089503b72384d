/-
  The text of a space, in both programs. Conditions: sizes, and that the library's table reads as its text lays it.
-/
import Derived.Test.YtejbigdebjcomaaDoorTX1
set_option linter.unusedVariables false
set_option linter.unusedSimpArgs false
set_option maxRecDepth 100000
namespace Go.Proofs.YtejbigdebjcomaaDoor
open Go.RowKit


theorem dec_len {n : Nat} (h : n < 100) : (Lib.decDigits n).length ≤ 2 := by
  by_cases h10 : n < 10
  · rw [Lib.decDigits, dif_pos h10]; simp
  · rw [Lib.decDigits, dif_neg h10, List.length_append, Lib.decDigits, dif_pos (by omega)]; simp

theorem itoa_len {a : Int} (h : -100 < a ∧ a < 100) : (Lib.itoa a).length ≤ 3 := by
  unfold Lib.itoa
  split
  · have := dec_len (n := a.natAbs) (by omega)
    rw [List.length_cons]; omega
  · have := dec_len (n := a.toNat) (by omega)
    omega

theorem ctx_len {p a : Int} (hp : 3 ≤ p ∧ p ≤ 13) (ha : 0 ≤ a ∧ a < p) : (ctx p a).length ≤ 3 := by
  unfold ctx
  split
  · exact itoa_len (by omega)
  · exact itoa_len (by omega)


theorem minusB (l : List UInt8) : ({ data := #[45] } : ByteArray) ++ strB l = strB (45 :: l) := strB_app [45] l

theorem blankB (l : List UInt8) : ({ data := #[32] } : ByteArray) ++ strB l = strB (32 :: l) := strB_app [32] l


theorem sText_c (p a : Int) (w : World) (hp : 3 ≤ p ∧ p ≤ 13) (ha : 0 ≤ a ∧ a < p) :
    Calls Tryd.prog 42 #[.int .i64 p, .int .i64 a] w fun e w' => Makes w w' e (.string (strB (ctx p a))) := by
  have h1 : IntKind.i64.wrap (p - 1) = p - 1 := wrap_in _ (by omega)
  obtain ⟨h, hh⟩ : ∃ h, Int.tdiv (p - 1) 2 = h := ⟨_, rfl⟩
  have hhb : 0 ≤ h ∧ h ≤ p := by rw [← hh, Int.tdiv_eq_ediv_of_nonneg (by omega)]; omega
  obtain ⟨A, rfl⟩ := Int.eq_ofNat_of_zero_le ha.1
  by_cases hlt : h < (A : Int)
  · obtain ⟨b, hb⟩ := Int.eq_ofNat_of_zero_le (show 0 ≤ p - (A : Int) by omega)
    have h2 : IntKind.i64.wrap (p - (A : Int)) = (b : Int) := by rw [hb]; exact wrap_in _ (by omega)
    have hc : strB (ctx p A) = ({ data := #[45] } : ByteArray) ++ strB (Lib.decDigits b) := by
      rw [minusB]; unfold ctx; rw [hh, if_pos hlt]; unfold Lib.itoa; rw [if_pos (by omega), show ((A : Int) - p).natAbs = b by omega]
    rw [hc]
    have HD := Lib.hid (sDec_c b w (by omega))
    have hsz : (strB (Lib.decDigits b)).size ≤ 2 := by rw [strB_size]; exact dec_len (by omega)
    obtain ⟨Z, hZ⟩ : ∃ Z, strB (Lib.decDigits b) = Z := ⟨_, rfl⟩
    rw [hZ] at HD hsz ⊢
    have hz : ¬ 9223372036854775807 < 1 + Z.size := by omega
    clear hc hb hZ hsz
    go_enter Tryd.func42, Tryd.ntmps42
    go_wp2_with (go_at_call 45; refine Calls.makes' HD.out _ fun w1 hb1 => ?_)
    go_ret
    exact ⟨rfl, hb1⟩
  · have hc : strB (ctx p A) = strB (Lib.decDigits A) := by
      unfold ctx; rw [hh, if_neg hlt]; unfold Lib.itoa; rw [if_neg (by omega), Int.toNat_natCast]
    rw [hc]
    have HD := Lib.hid (sDec_c A w (by omega))
    clear hc
    go_enter Tryd.func42, Tryd.ntmps42
    go_wp2_with (go_at_call 45; refine Calls.makes' HD.out _ fun w1 hb1 => ?_)
    go_ret
    exact ⟨rfl, hb1⟩


/-- the text of a space, up to k squares -/
def txtL (p : Int) (s : Nat → Int) : Nat → List UInt8
  | 0 => Lib.itoa p ++ [58]
  | k + 1 => txtL p s k ++ 32 :: ctx p (s k)

theorem txtL_len {p : Int} {n : Nat} {s : Nat → Int} (hp : 3 ≤ p ∧ p ≤ 13) (hs : InP p n s) : ∀ k, k ≤ n → (txtL p s k).length ≤ 4 + 4 * k
  | 0, _ => by
    have := itoa_len (a := p) (by omega)
    rw [txtL, List.length_append, List.length_singleton]; omega
  | k + 1, h => by
    have h1 := txtL_len hp hs k (by omega)
    have h2 := ctx_len (a := s k) hp (hs k (by omega))
    rw [txtL, List.length_append, List.length_cons]; omega


set_option maxHeartbeats 2000000 in
theorem iSpText_c (p : Int) (sv : Value) (n : Nat) (s : Nat → Int) (w : World) (hd : SV w sv p n s) (ht : TabW w) :
    Calls Tryd.prog 31 #[dbl p sv] w fun e w' => Makes w w' e (.string (strB (txtL p s n))) := by
  have hpb := hd.ok.bd
  have hn6 := hd.ok.n6
  have hin := Lib.hid hd.ok.inp
  obtain ⟨ao, c, b, o, rfl, p2, p3, p4, p5⟩ := hd.ints.out
  have P5 := Lib.hid p5
  have BX := Lib.hid (box0 w p ao n c 24)
  obtain ⟨e0, e1, e2, e3⟩ := BX.out
  have HT : Hid (∀ W a, Below w.heap.size w W → 0 ≤ a ∧ a < p → Calls Tryd.prog 50 #[.int .i64 p, .int .i64 a] W fun e w' => Makes W w' e (.string (strB (ctx p a)))) := fun W a hb ha => iText_c p a W hpb ha (ht.below hb)
  have HF := Lib.hid (fmtI_c p _ (by omega) (ht.below e3))
  have HLN := Lib.hid (txtL_len hpb hd.ok.inp)
  have hs0 : ¬ 9223372036854775807 < (strB (Lib.itoa p)).size + 1 := by
    rw [strB_size]
    have := itoa_len (a := p) (by omega)
    omega
  have HST : Hid (strB (Lib.itoa p) ++ ({ data := #[58] } : ByteArray) = strB (txtL p s 0)) := strB_app _ [58]
  obtain ⟨Z, hZ⟩ : ∃ Z, strB (Lib.itoa p) = Z := ⟨_, rfl⟩
  rw [hZ] at HF hs0 HST
  clear hd p5 ht hZ
  go_enter Tryd.func31, Tryd.ntmps31
  go_wp2_with (go_at_call 55; refine Calls.makes' HF.out _ fun w1 hb1 => ?_; have BX1 := Lib.hid (boxKeep hb1 BX.out); obtain ⟨f0, f1, f2, f3⟩ := BX1.out)
  go_loopg [3, 13] n (fun gg out i wr => ∃ k : Nat, k ≤ n ∧ gg = n - k ∧ i = .int .i64 k ∧ out = .string (strB (txtL p s k)) ∧ Hid (BoxD w p ao n c wr))
  case atStart => exact ⟨0, Nat.zero_le _, rfl, rfl, by rw [HST.out], BX1.out⟩
  case round =>
    obtain ⟨k, hk, rfl, rfl, rfl, hbx⟩ := hrel
    clear e0 e1 e2 e3 f0 f1 f2 f3 BX1
    obtain ⟨f0, f1, f2, f3⟩ := hbx.out
    by_cases hlt : k < n
    · obtain rfl := p4 (by omega)
      have z1 : wr.cell? ⟨b, o + k, none⟩ = some (.int .i64 (s k)) := by rw [f3.cell (p := ⟨b, o + k, none⟩) (lt_of_cell (P5.out k hlt))]; exact P5.out k hlt
      have hsk := hin.out k hlt
      have hnx : Hid (strB (txtL p s k) ++ (({ data := #[32] } : ByteArray) ++ strB (ctx p (s k))) = strB (txtL p s (k + 1))) := by
        show strB (txtL p s k) ++ (({ data := #[32] } : ByteArray) ++ strB (ctx p (s k))) = strB (txtL p s (k + 1))
        rw [blankB, strB_app]; rfl
      have hl1 : (strB (txtL p s k)).size ≤ 40 := by rw [strB_size]; have := HLN.out k hk; omega
      have hl2 : (strB (ctx p (s k))).size ≤ 3 := by rw [strB_size]; exact ctx_len hpb hsk
      have HTk := Lib.hid (fun W hb => HT.out W (s k) hb hsk)
      obtain ⟨O, hO⟩ : ∃ O, strB (txtL p s k) = O := ⟨_, rfl⟩
      obtain ⟨C, hC⟩ : ∃ C, strB (ctx p (s k)) = C := ⟨_, rfl⟩
      obtain ⟨x, hx⟩ : ∃ x, s k = x := ⟨_, rfl⟩
      rw [hC] at HTk hl2 hnx
      rw [hO] at hl1 hnx ⊢
      rw [hx] at z1 HTk hsk
      have hz1 : ¬ 9223372036854775807 < 1 + C.size := by omega
      have hz2 : ¬ 9223372036854775807 < O.size + (1 + C.size) := by omega
      have i0 : (0 : Int) ≤ (k : Int) := by omega
      have i1 : (k : Int) < (n : Int) := by omega
      clear hO hC hx hl1 hl2
      go_wp2_with fail
      go_at_call 53
      refine Calls.makes' (iSField_c _ _ _) _ fun w5 hb5 => ?_
      have BX5 := Lib.hid (boxKeep hb5 hbx.out)
      have b5 := BX5.out.2.2.2
      clear hb5 f0 f1 f2 z1
      go_wp2_with (go_at_call 50; refine Calls.makes' (HTk.out _ b5) _ fun w6 hb6 => ?_)
      have BX6 := Lib.hid (boxKeep hb6 BX5.out)
      go_roundg (n - (k + 1))
      case measure => omega
      case rel => exact ⟨k + 1, by omega, rfl, by go_num, by rw [hnx.out], BX6.out⟩
    · obtain rfl : k = n := by omega
      go_wp2
      go_ret
      exact ⟨rfl, f3⟩


/-- the box and a square -/
theorem sq3Keep {w W W' : World} {b0 a1 o1 : Nat} {v1 v2 v3 : Value} (hb : Below W.heap.size W W') (h : W.cell? ⟨b0, 0, none⟩ = some v1 ∧ W.cell? ⟨b0, 1, none⟩ = some v2 ∧ W.cell? ⟨a1, o1, none⟩ = some v3 ∧ Below w.heap.size w W) : W'.cell? ⟨b0, 0, none⟩ = some v1 ∧ W'.cell? ⟨b0, 1, none⟩ = some v2 ∧ W'.cell? ⟨a1, o1, none⟩ = some v3 ∧ Below w.heap.size w W' := ⟨cellKp hb h.1, cellKp hb h.2.1, cellKp hb h.2.2.1, h.2.2.2.trans (hb.mono h.2.2.2.size)⟩


set_option maxHeartbeats 2000000 in
theorem sSpText_c (p : Int) (sv : Value) (n : Nat) (s : Nat → Int) (w : World) (hd : SV w sv p n s) :
    Calls Tryd.prog 24 #[dbl p sv] w fun e w' => Makes w w' e (.string (strB (txtL p s n))) := by
  have hpb := hd.ok.bd
  have hn6 := hd.ok.n6
  have hin := Lib.hid hd.ok.inp
  obtain ⟨ao, c, b, o, rfl, p2, p3, p4, p5⟩ := hd.ints.out
  have P5 := Lib.hid p5
  have BX := Lib.hid (box0 w p ao n c 24)
  obtain ⟨e0, e1, e2, e3⟩ := BX.out
  have HLN := Lib.hid (txtL_len hpb hd.ok.inp)
  obtain ⟨P, rfl⟩ := Int.eq_ofNat_of_zero_le (show 0 ≤ p by omega)
  have HT : Hid (∀ W a, 0 ≤ a ∧ a < (P : Int) → Calls Tryd.prog 42 #[.int .i64 P, .int .i64 a] W fun e w' => Makes W w' e (.string (strB (ctx P a)))) := fun W a ha => sText_c P a W hpb ha
  have HF := Lib.hid (sDec_c P (w.alloc (.cells #[.int .i64 P, .slice ao n c] 24)) (by omega))
  have hid : Lib.itoa (P : Int) = Lib.decDigits P := by unfold Lib.itoa; rw [if_neg (by omega), Int.toNat_natCast]
  rw [← hid] at HF
  have hs0 : ¬ 9223372036854775807 < (strB (Lib.itoa P)).size + 1 := by
    rw [strB_size]
    have := itoa_len (a := P) (by omega)
    omega
  have HST : Hid (strB (Lib.itoa P) ++ ({ data := #[58] } : ByteArray) = strB (txtL P s 0)) := strB_app _ [58]
  obtain ⟨Z, hZ⟩ : ∃ Z, strB (Lib.itoa P) = Z := ⟨_, rfl⟩
  rw [hZ] at HF hs0 HST
  clear hd p5 hZ hid
  go_enter Tryd.func24, Tryd.ntmps24
  go_wp2_with (go_at_call 45; refine Calls.makes' HF.out _ fun w1 hb1 => ?_; have BX1 := Lib.hid (boxKeep hb1 BX.out); obtain ⟨f0, f1, f2, f3⟩ := BX1.out)
  go_loopg [3, 4] n (fun gg out i wr => ∃ k : Nat, k ≤ n ∧ gg = n - k ∧ i = .int .i64 k ∧ out = .string (strB (txtL P s k)) ∧ Hid (BoxD w P ao n c wr))
  case atStart => exact ⟨0, Nat.zero_le _, rfl, rfl, by rw [HST.out], BX1.out⟩
  case round =>
    obtain ⟨k, hk, rfl, rfl, rfl, hbx⟩ := hrel
    clear e0 e1 e2 e3 f0 f1 f2 f3 BX1
    obtain ⟨f0, f1, f2, f3⟩ := hbx.out
    by_cases hlt : k < n
    · obtain rfl := p4 (by omega)
      have z1 : wr.cell? ⟨b, o + k, none⟩ = some (.int .i64 (s k)) := by rw [f3.cell (p := ⟨b, o + k, none⟩) (lt_of_cell (P5.out k hlt))]; exact P5.out k hlt
      have hsk := hin.out k hlt
      have hnx : Hid ((strB (txtL P s k) ++ ({ data := #[32] } : ByteArray)) ++ strB (ctx P (s k)) = strB (txtL P s (k + 1))) := by
        show (strB (txtL P s k) ++ strB [32]) ++ strB (ctx P (s k)) = strB (txtL P s (k + 1))
        rw [strB_app, strB_app, List.append_assoc]; rfl
      have hl1 : (strB (txtL P s k)).size ≤ 40 := by rw [strB_size]; have := HLN.out k hk; omega
      have hl2 : (strB (ctx P (s k))).size ≤ 3 := by rw [strB_size]; exact ctx_len hpb hsk
      have HTk := Lib.hid (fun W => HT.out W (s k) hsk)
      obtain ⟨O, hO⟩ : ∃ O, strB (txtL P s k) = O := ⟨_, rfl⟩
      obtain ⟨C, hC⟩ : ∃ C, strB (ctx P (s k)) = C := ⟨_, rfl⟩
      obtain ⟨x, hx⟩ : ∃ x, s k = x := ⟨_, rfl⟩
      rw [hC] at HTk hl2 hnx
      rw [hO] at hl1 hnx ⊢
      rw [hx] at z1 HTk hsk
      have hz1 : ¬ 9223372036854775807 < O.size + 1 := by omega
      have hz2 : ¬ 9223372036854775807 < O.size + 1 + C.size := by omega
      have i0 : (0 : Int) ≤ (k : Int) := by omega
      have i1 : (k : Int) < (n : Int) := by omega
      have hS0 : wr.drew.cell? ⟨w.heap.size, 0, none⟩ = some (.int .i64 P) ∧ wr.drew.cell? ⟨w.heap.size, 1, none⟩ = some (.slice (some ⟨b, o, none⟩) n c) ∧ wr.drew.cell? ⟨b, o + k, none⟩ = some (.int .i64 x) ∧ Below wr.heap.size wr wr.drew := ⟨cellKp (drewB _) f0, cellKp (drewB _) f1, cellKp (drewB _) z1, drewB _⟩
      clear hO hC hx hl1 hl2
      go_wp2
      go_region_held3 (fun W => W.cell? ⟨w.heap.size, 0, none⟩ = some (.int .i64 P) ∧ W.cell? ⟨w.heap.size, 1, none⟩ = some (.slice (some ⟨b, o, none⟩) n c) ∧ W.cell? ⟨b, o + k, none⟩ = some (.int .i64 x) ∧ Below wr.heap.size wr W)
        ((first | assumption | exact hS0 | exact sq3Keep (by assumption) (by assumption)))
        ((first
          | (go_at_call 42; refine Calls.makes' (HTk.out _) _ fun v1 hv1 => ?_)))
      rename_i hHeld
      have BX6 := Lib.hid (boxKeep hHeld.2.2.2 hbx.out)
      clear hHeld hS0
      go_wp2
      go_roundg (n - (k + 1))
      case measure => omega
      case rel => exact ⟨k + 1, by omega, rfl, by go_num, by rw [hnx.out], BX6.out⟩
    · obtain rfl : k = n := by omega
      go_wp2
      go_ret
      exact ⟨rfl, f3⟩


/-- what SpaceText hands back -/
def stB (p : Int) (n : Nat) (s : Nat → Int) : ByteArray := if spB p n s then strB (txtL p s n) else { data := #[] }

def stC (p : Int) (n : Nat) (s : Nat → Int) : Int := if spB p n s then 0 else 1


theorem iSpaceText_c (p : Int) (sv : Value) (n : Nat) (s : Nat → Int) (w : World) (h : Ints w sv n s) (ht : TabW w) :
    Calls Tryd.prog 14 #[dbl p sv] w fun e w' => Makes w w' e (.tuple #[.string (stB p n s), .int .i64 (stC p n s)]) := by
  have H := Lib.hid h
  have HTW := Lib.hid ht
  obtain ⟨ao, c, b, o, rfl, p2, p3, qx⟩ := h.out
  have BX := Lib.hid (box0 w p ao n c 24)
  obtain ⟨e0, e1, e2, e3⟩ := BX.out
  have HC := Lib.hid (iIsSp_c p _ n s _ (H.out.below e3))
  clear h qx ht
  cases hok : spB p n s
  · have h1 : stB p n s = { data := #[] } := by unfold stB; rw [hok]; rfl
    have h2 : stC p n s = 1 := by unfold stC; rw [hok]; rfl
    rw [h1, h2]
    rw [hok] at HC
    clear hok h1 h2
    go_enter Tryd.func14, Tryd.ntmps14
    go_wp2_with (go_at_call 30; refine Calls.makes' HC.out _ fun w1 hb1 => ?_)
    go_ret2
    exact ⟨rfl, e3.trans (hb1.mono e3.size)⟩
  · have h1 : stB p n s = strB (txtL p s n) := by unfold stB; rw [hok]; rfl
    have h2 : stC p n s = 0 := by unfold stC; rw [hok]; rfl
    have HTX : Hid (∀ W, Below w.heap.size w W → Calls Tryd.prog 31 #[dbl p (.slice ao n c)] W fun e w' => Makes W w' e (.string (strB (txtL p s n)))) := fun W hb => iSpText_c p _ n s W ⟨H.out.below hb, spB_ok hok⟩ (HTW.out.below hb)
    rw [h1, h2]
    rw [hok] at HC
    clear hok h1 h2
    go_enter Tryd.func14, Tryd.ntmps14
    go_wp2_with fail
    go_at_call 30
    refine Calls.makes' HC.out _ fun w1 hb1 => ?_
    obtain ⟨f0, f1, f2, f3⟩ := boxKeep hb1 BX.out
    go_wp2_with fail
    go_at_call 31
    refine Calls.makes' (HTX.out _ f3) _ fun w2 hb2 => ?_
    have hf := f3.trans (hb2.mono f3.size)
    go_wp2
    go_ret2
    exact ⟨rfl, hf⟩


theorem sSpaceText_c (p : Int) (sv : Value) (n : Nat) (s : Nat → Int) (w : World) (h : Ints w sv n s) :
    Calls Tryd.prog 12 #[dbl p sv] w fun e w' => Makes w w' e (.tuple #[.string (stB p n s), .int .i64 (stC p n s)]) := by
  have H := Lib.hid h
  obtain ⟨ao, c, b, o, rfl, p2, p3, qx⟩ := h.out
  have BX := Lib.hid (box0 w p ao n c 24)
  obtain ⟨e0, e1, e2, e3⟩ := BX.out
  have HC := Lib.hid (sIsSp_c p _ n s _ (H.out.below e3))
  clear h qx
  cases hok : spB p n s
  · have h1 : stB p n s = { data := #[] } := by unfold stB; rw [hok]; rfl
    have h2 : stC p n s = 1 := by unfold stC; rw [hok]; rfl
    rw [h1, h2]
    rw [hok] at HC
    clear hok h1 h2
    go_enter Tryd.func12, Tryd.ntmps12
    go_wp2_with (go_at_call 23; refine Calls.makes' HC.out _ fun w1 hb1 => ?_)
    go_ret2
    exact ⟨rfl, e3.trans (hb1.mono e3.size)⟩
  · have h1 : stB p n s = strB (txtL p s n) := by unfold stB; rw [hok]; rfl
    have h2 : stC p n s = 0 := by unfold stC; rw [hok]; rfl
    have HTX : Hid (∀ W, Below w.heap.size w W → Calls Tryd.prog 24 #[dbl p (.slice ao n c)] W fun e w' => Makes W w' e (.string (strB (txtL p s n)))) := fun W hb => sSpText_c p _ n s W ⟨H.out.below hb, spB_ok hok⟩
    rw [h1, h2]
    rw [hok] at HC
    clear hok h1 h2
    go_enter Tryd.func12, Tryd.ntmps12
    go_wp2_with fail
    go_at_call 23
    refine Calls.makes' HC.out _ fun w1 hb1 => ?_
    obtain ⟨f0, f1, f2, f3⟩ := boxKeep hb1 BX.out
    go_wp2_with fail
    go_at_call 24
    refine Calls.makes' (HTX.out _ f3) _ fun w2 hb2 => ?_
    have hf := f3.trans (hb2.mono f3.size)
    go_wp2
    go_ret2
    exact ⟨rfl, hf⟩

end Go.Proofs.YtejbigdebjcomaaDoor
