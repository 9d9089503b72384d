/-
  Numbers as texts, in both programs. Conditions: sizes, and where the library's table is read, that it reads as its text lays it.
-/
import Derived.Test.YtejbigdebjcomaaDoorShT
import Derived.Test.YtejbigdebjcomaaDoorSP1
import Derived.Lib.AppendIntMem
import Derived.Laws.IdiomStrings
set_option linter.unusedVariables false
set_option linter.unusedSimpArgs false
set_option maxRecDepth 100000
namespace Go.Proofs.YtejbigdebjcomaaDoor
open Go.RowKit


/-- a list of bytes as a string -/
def strB (l : List UInt8) : ByteArray := ⟨l.toArray⟩

theorem strB_app (a b : List UInt8) : strB a ++ strB b = strB (a ++ b) := by
  unfold strB
  apply ByteArray.ext
  simp [ByteArray.data_append]

theorem strB_size (a : List UInt8) : (strB a).size = a.length := by
  unfold strB
  simp [ByteArray.size]

/-- the library's table -/
def TabW (w : World) : Prop := Lib.TabIs Tryd.prog w "internal/strconv.uint64pow10" .u64 Lib.pow10Tab

theorem TabW.below {w w' : World} (h : TabW w) (hb : Below w.heap.size w w') : TabW w' := Lib.tabBelow_of_tabIs h w' hb

theorem growB (w : World) (k : Nat) (os : Array Obj) : Below w.heap.size w (Sort.grow (w.drewN k) os) :=
  ⟨rfl, rfl, rfl, by simp [Sort.grow], fun b hb => by
    show ((w.drewN k).heap ++ os)[b]? = _
    rw [Array.getElem?_append_left (by exact hb)]
    rfl⟩

theorem fmtI_c (n : Int) (w : World) (hn : -100 ≤ n ∧ n ≤ 100) (ht : TabW w) :
    Calls Tryd.prog 55 #[.int .i64 n, .int .i64 10] w fun e w' => Makes w w' e (.string (strB (Lib.itoa n))) :=
  (Tryd.strconv_FormatInt_10 n (by omega) (by omega) w ht).mono fun e w' h => by
    obtain ⟨rfl, k, os, rfl⟩ := h
    exact ⟨rfl, growB w k os⟩


/-- a number of the field as a text -/
def ctx (p a : Int) : List UInt8 := Lib.itoa (if Int.tdiv (p - 1) 2 < a then a - p else a)


theorem iText_c (p a : Int) (w : World) (hp : 3 ≤ p ∧ p ≤ 13) (ha : 0 ≤ a ∧ a < p) (ht : TabW w) :
    Calls Tryd.prog 50 #[.int .i64 p, .int .i64 a] w fun e w' => Makes w w' e (.string (strB (ctx p a))) := by
  have h1 : IntKind.i64.wrap (p - 1) = p - 1 := wrap_in _ (by omega)
  obtain ⟨h, hh⟩ : ∃ h, Int.tdiv (p - 1) 2 = h := ⟨_, rfl⟩
  have h2 : IntKind.i64.wrap (a - p) = a - p := wrap_in _ (by omega)
  have hhb : 0 ≤ h ∧ h ≤ p := by rw [← hh, Int.tdiv_eq_ediv_of_nonneg (by omega)]; omega
  by_cases hlt : h < a
  · have hc : ctx p a = Lib.itoa (a - p) := by unfold ctx; rw [hh, if_pos hlt]
    rw [hc]
    have HF := Lib.hid (fmtI_c (a - p) w (by omega) ht)
    clear hc ht
    go_enter Tryd.func50, Tryd.ntmps50
    go_wp2_with (go_at_call 55; refine Calls.makes' HF.out _ fun w1 hb1 => ?_)
    go_ret
    exact ⟨rfl, hb1⟩
  · have hc : ctx p a = Lib.itoa a := by unfold ctx; rw [hh, if_neg hlt]
    rw [hc]
    have HF := Lib.hid (fmtI_c a w (by omega) ht)
    clear hc ht
    go_enter Tryd.func50, Tryd.ntmps50
    go_wp2_with (go_at_call 55; refine Calls.makes' HF.out _ fun w1 hb1 => ?_)
    go_ret
    exact ⟨rfl, hb1⟩


theorem conv1 (W : World) (b x : Nat) (hx : x < 256) (hc : W.cell? ⟨b, 0, none⟩ = some (.int .u8 (x : Int))) :
    (convert 36 9 (.slice (some ⟨b, 0, none⟩) 1 1)).run Tryd.prog W = .ok (.string (strB [UInt8.ofNat x])) W :=
  run_convert_bytes_back W _ _ _ ⟨b, 0, none⟩ 1 [UInt8.ofNat x] Tryd.underlying36 Tryd.underlying5 Tryd.underlying9 (fun j hj => by
    have hj : j < 1 := hj
    obtain rfl : j = 0 := by omega
    have e1 : ((UInt8.ofNat x).toNat : Int) = (x : Int) := by
      rw [UInt8.toNat_ofNat', Nat.mod_eq_of_lt (by omega)]
    show W.cell? ⟨b, 0, none⟩ = some (.int .u8 (((UInt8.ofNat x).toNat : Nat) : Int))
    rw [hc, e1])

theorem own1T (w : World) (e : TypeId) (v : Value) : Own (w.alloc (.cells #[v] e)) e w.heap.size 1 1 (fun _ => v) :=
  Own.new w e #[v] (fun _ => v) (by simp) fun i hi => by
    have h : i = 0 := by simpa using hi
    subst h; rfl

theorem conv1N (W : World) (n : Nat) (hn : n < 10) : (convert 36 9 (.slice (some ⟨W.heap.size, 0, none⟩) 1 1)).run Tryd.prog (W.alloc (.cells #[.int .u8 (48 + (n : Int))] 5)) = .ok (.string (strB [UInt8.ofNat (48 + n)])) (W.alloc (.cells #[.int .u8 (48 + (n : Int))] 5)) := by
  refine conv1 _ _ (48 + n) (by omega) ?_
  have h := (own1T W 5 (.int .u8 (48 + (n : Int)))).cell (i := 0) (by omega)
  rw [h]
  congr 2


theorem conv1K (W w1 : World) (n : Nat) (hn : n < 10) (hb : Below (W.alloc (.cells #[.int .u8 (48 + (n : Int))] 5)).heap.size (W.alloc (.cells #[.int .u8 (48 + (n : Int))] 5)) w1) : (convert 36 9 (.slice (some ⟨W.heap.size, 0, none⟩) 1 1)).run Tryd.prog w1 = .ok (.string (strB [UInt8.ofNat (48 + n)])) w1 := by
  refine conv1 _ _ (48 + n) (by omega) ?_
  have h := cellKp hb ((own1T W 5 (.int .u8 (48 + (n : Int)))).cell (i := 0) (by omega))
  rw [h]
  congr 2


theorem sDec1_c (n : Nat) (w : World) (hn : n < 10) :
    Calls Tryd.prog 45 #[.int .i64 n] w fun e w' => Makes w w' e (.string (strB (Lib.decDigits n))) := by
  have hlt : (n : Int) < 10 := by omega
  have h1 : IntKind.i64.wrap (48 + (n : Int)) = 48 + (n : Int) := wrap_in _ (by omega)
  have h2 : IntKind.u8.wrap (48 + (n : Int)) = 48 + (n : Int) := by rw [IntKind.wrap_u8]; omega
  have hcv := fun W => conv1N W n hn
  have hD : Lib.decDigits n = [UInt8.ofNat (48 + n)] := by rw [Lib.decDigits, dif_pos hn]
  rw [hD]
  obtain ⟨D, hDD⟩ : ∃ D, strB [UInt8.ofNat (48 + n)] = D := ⟨_, rfl⟩
  rw [hDD] at hcv ⊢
  clear hD hDD
  go_enter Tryd.func45, Tryd.ntmps45
  go_wp2
  go_ret
  exact ⟨rfl, (Below.refl _ _).alloc (Nat.le_refl _) _⟩


set_option maxHeartbeats 1000000 in
theorem sDec_c (n : Nat) (w : World) (hn : n < 100) :
    Calls Tryd.prog 45 #[.int .i64 n] w fun e w' => Makes w w' e (.string (strB (Lib.decDigits n))) := by
  by_cases h10 : n < 10
  · exact sDec1_c n w h10
  · obtain ⟨q, hq⟩ : ∃ q, n / 10 = q := ⟨_, rfl⟩
    obtain ⟨r, hr⟩ : ∃ r, n % 10 = r := ⟨_, rfl⟩
    have hD : strB (Lib.decDigits n) = strB (Lib.decDigits q) ++ strB [UInt8.ofNat (48 + r)] := by
      rw [strB_app, Lib.decDigits, dif_neg h10, hq, hr]
    rw [hD]
    have hr10 : r < 10 := by omega
    have hge : ¬ (n : Int) < 10 := by omega
    have k1 : Int.tdiv (n : Int) 10 = (q : Int) := by rw [Int.tdiv_eq_ediv_of_nonneg (by omega)]; omega
    have k2 : Int.tmod (n : Int) 10 = (r : Int) := by rw [Int.tmod_eq_emod_of_nonneg (by omega)]; omega
    have k3 : IntKind.i64.wrap (q : Int) = (q : Int) := wrap_in _ (by omega)
    have h1 : IntKind.i64.wrap (48 + (r : Int)) = 48 + (r : Int) := wrap_in _ (by omega)
    have h2 : IntKind.u8.wrap (48 + (r : Int)) = 48 + (r : Int) := by rw [IntKind.wrap_u8]; omega
    have hcv := fun W => conv1N W r hr10
    have hck := fun W w1 hb => conv1K W w1 r hr10 hb
    have HD : Hid (∀ W, Calls Tryd.prog 45 #[.int .i64 q] W fun e w' => Makes W w' e (.string (strB (Lib.decDigits q)))) := fun W => sDec1_c q W (by omega)
    obtain ⟨Z, hZ⟩ : ∃ Z, strB (Lib.decDigits q) = Z := ⟨_, rfl⟩
    have hz1 : Z.size = 1 := by rw [← hZ, strB_size, Lib.decDigits, dif_pos (by omega)]; rfl
    obtain ⟨D, hDD⟩ : ∃ D, strB [UInt8.ofNat (48 + r)] = D := ⟨_, rfl⟩
    have hz2 : D.size = 1 := by rw [← hDD, strB_size]; rfl
    have hz : ¬ 9223372036854775807 < Z.size + D.size := by omega
    rw [hZ] at HD ⊢
    rw [hDD] at hcv hck ⊢
    have HCK := Lib.hid hck
    have hcvd := hck w _ (drewB (w.alloc (.cells #[.int .u8 (48 + (r : Int))] 5)))
    clear hD hq hr hZ hDD hz1 hz2 hck
    go_enter Tryd.func45, Tryd.ntmps45
    go_wp2
    go_region_law (first
      | (go_simp; go_at_call 45; refine Calls.makes' (HD.out _) _ fun w1 hb1 => ?_; (first | have hcv1 : (convert 36 9 (.slice (some ⟨w.heap.size, 0, none⟩) 1 1)).run Tryd.prog w1 = .ok (.string D) w1 := HCK.out w w1 ((drewB _).trans hb1) | have hcv1 : (convert 36 9 (.slice (some ⟨w.heap.size, 0, none⟩) 1 1)).run Tryd.prog w1 = .ok (.string D) w1 := HCK.out w.drew w1 hb1 | skip)))
    all_goals go_wp2
    all_goals go_ret
    all_goals first
      | exact ⟨rfl, ((drewB w).trans (hb1.mono (Nat.le_refl _))).alloc (hb1.size) _⟩
      | exact ⟨rfl, ((drewB w).trans hb1).alloc hb1.size _⟩
      | exact ⟨rfl, ((Below.refl w.heap.size w).alloc (Nat.le_refl _) _).trans (((drewB _).trans hb1).mono (by rw [alloc_size]; exact Nat.le_succ _))⟩
      | exact ⟨rfl, ((drewB w).alloc (Nat.le_refl _) _).trans (hb1.mono (by rw [alloc_size]; exact Nat.le_succ _))⟩

end Go.Proofs.YtejbigdebjcomaaDoor
