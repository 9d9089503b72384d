/-
  ParseSpace, the program's: lemmas. No program is in sight but in the last.
-/
import Derived.Test.YtejbigdebjcomaaDoorTP5
set_option linter.unusedVariables false
set_option linter.unusedSimpArgs false
set_option maxRecDepth 100000
namespace Go.Proofs.YtejbigdebjcomaaDoor
open Go.RowKit


theorem parse_prime {p : Int} (hp : primeB p = true) : Lib.parseIntB 64 (Lib.itoa p) = .ok p := by
  rcases primeB_five hp with rfl | rfl | rfl | rfl | rfl
  · rw [show Lib.itoa 3 = [51] from itoa1 3 (by omega)]; rfl
  · rw [show Lib.itoa 5 = [53] from itoa1 5 (by omega)]; rfl
  · rw [show Lib.itoa 7 = [55] from itoa1 7 (by omega)]; rfl
  · rw [show Lib.itoa 11 = [49, 49] from itoa2 1 (by omega)]; rfl
  · rw [show Lib.itoa 13 = [49, 51] from itoa2 3 (by omega)]; rfl

theorem cut_len (s : List UInt8) (c : UInt8) : (Lib.cut s [c]).1.length ≤ s.length ∧ (Lib.cut s [c]).2.1.length ≤ s.length := by
  unfold Lib.cut
  split
  · simp only [List.length_take, List.length_drop]; omega
  · simp

theorem strB_list (l : List UInt8) : (strB l).data.toList = l := by simp [strB]

/-- what the words are, as the program cuts them -/
theorem ps_sameI {T : List UInt8} {p : Int} {P n G : Nat} {s : Nat → Int} {H R : ByteArray} {P2 : Nat → ByteArray} (h : PsOk T p n s) (hH : H = strB (Lib.cut T [58]).1) (hR : R = strB (Lib.cut T [58]).2.1) (hv : Lib.parseIntB 64 H.data.toList = .ok (P : Int)) (h3 : Lib.split R.data.toList [32] = (List.range (G + 1)).map fun i => (P2 i).data.toList) :
    (∀ k, k < G → ctxN P (P2 (k + 1)) < P) ∧ PsOk T P G (sqX P P2) := by
  have hc := ps_head h
  have ok := spB_ok h.sp
  rw [hc] at hH hR
  subst hH hR
  rw [strB_list, parse_prime ok.prime] at hv
  obtain rfl : p = (P : Int) := by injection hv
  rw [strB_list, ps_split] at h3
  have h4 := congrArg List.length h3
  rw [List.length_cons, ctxs_len, List.length_map, List.length_range] at h4
  obtain rfl : n = G := by omega
  have h6 : ∀ k, k < n → (P2 (k + 1)).data.toList = ctx P (s k) := fun k hk => by
    have h5 := congrArg (fun l => l[k + 1]?) h3
    simp only [List.getElem?_cons_succ] at h5
    rw [ctxs_at P s hk, List.getElem?_map, List.getElem?_range (by omega)] at h5
    exact (Option.some.inj h5).symm
  have hx : ∀ k, k < n → sqX P P2 k = s k := fun k hk => ctxN_at ok.bd.1 (ok.inp k hk) (h6 k hk)
  refine ⟨fun k hk => ?_, h.congr fun i hi => (hx i hi).symm⟩
  have h5 := hx k hk
  have h6 := ok.inp k hk
  unfold sqX at h5
  omega

end Go.Proofs.YtejbigdebjcomaaDoor
