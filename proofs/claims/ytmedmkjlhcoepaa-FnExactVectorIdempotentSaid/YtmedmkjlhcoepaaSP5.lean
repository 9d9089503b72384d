/-
  The reference's reflection of a vector. No condition beside sizes.
-/
import Derived.Test.YtmedmkjlhcoepaaSP4
set_option linter.unusedVariables false
set_option linter.unusedSimpArgs false
namespace Go.Proofs.Ytmedmkjlhcoepaa
open Go.RowKit

set_option maxRecDepth 100000 in
set_option maxHeartbeats 2000000 in
theorem sRefl_c (p : Int) (sv uv vv : Value) (n : Nat) (s U V : Nat → Int) (w : World) (hd : SV w sv p n s) (hu : Vc w uv p n U) (hv : Vc w vv p n V) (hz : pairF p s n U U ≠ 0) :
    Calls Try.prog 68 #[dbl p sv, uv, vv] w fun e w' => CopyI w w' e n (reflF p (pairF p s n U V) (invM p (pairF p s n U U)) V U) := by
  have hpr := hd.ok.prime
  have hpb := hd.ok.bd
  have hn6 := hd.ok.n6
  have HU : Hid (∀ W, Below w.heap.size w W → Vc W uv p n U) := fun W hb => hu.below hb
  have HW : Hid (∀ W, Below w.heap.size w W → Vc W vv p n V) := fun W hb => hv.below hb
  have ha := pairF_in (p := p) (by omega) s n U V
  have hc := pairF_in (p := p) (by omega) s n U U
  obtain ⟨a, qa⟩ : ∃ a, pairF p s n U V = a := ⟨_, rfl⟩
  obtain ⟨d, qd⟩ : ∃ d, pairF p s n U U = d := ⟨_, rfl⟩
  have C1 : Hid (∀ W, Below w.heap.size w W → Calls Try.prog 52 #[dbl p sv, uv, vv] W fun e w' => Makes W w' e (.int .i64 a)) := fun W hb => qa ▸ sPair_c p _ _ _ n s U V W (hd.below hb) (hu.below hb) (hv.below hb)
  have C2 : Hid (∀ W, Below w.heap.size w W → Calls Try.prog 52 #[dbl p sv, uv, uv] W fun e w' => Makes W w' e (.int .i64 d)) := fun W hb => qd ▸ sPair_c p _ _ _ n s U U W (hd.below hb) (hu.below hb) (hu.below hb)
  rw [qa] at ha ⊢
  rw [qd] at hc hz ⊢
  have CI : Hid (∀ W, Calls Try.prog 87 #[.int .i64 p, .int .i64 d] W fun e w' => e = .returned (.int .i64 (invM p d)) ∧ W = w') := fun W => sInv_c p d W hpr (by omega) (by omega)
  have hb2 : 0 ≤ invM p d ∧ invM p d < p := powM_bd (p := p) (a := d) (by omega) (p - 2).toNat
  obtain ⟨b, qb⟩ : ∃ b, invM p d = b := ⟨_, rfl⟩
  rw [qb] at CI hb2 ⊢
  have hmd := mod_bd (2 * a) p (by omega)
  have hm0 : 0 ≤ 2 * a % p * b := Int.mul_nonneg hmd.1 hb2.1
  have hm1 := mul_bd (a := 2 * a % p) (b := b) (by omega) (by omega)
  have hf := mod_bd (2 * a % p * b) p (by omega)
  have hg := mod_bd (p - (2 * a % p * b) % p) p (by omega)
  have hw1 : IntKind.i64.wrap (2 * a) = 2 * a := wrap_in _ (by omega)
  have ht1 : Int.tmod (2 * a) p = 2 * a % p := Int.tmod_eq_emod_of_nonneg (by omega)
  have hw2 : IntKind.i64.wrap (2 * a % p * b) = 2 * a % p * b := wrap_in _ (by omega)
  have ht2 : Int.tmod (2 * a % p * b) p = (2 * a % p * b) % p := Int.tmod_eq_emod_of_nonneg (by omega)
  obtain ⟨f, qf⟩ : ∃ f, (2 * a % p * b) % p = f := ⟨_, rfl⟩
  rw [qf] at ht2 hf hg
  have hw3 : IntKind.i64.wrap (p - f) = p - f := wrap_in _ (by omega)
  have ht3 : Int.tmod (p - f) p = (p - f) % p := Int.tmod_eq_emod_of_nonneg (by omega)
  have HE0 : ∀ i, (V i + (p - f) % p * U i) % p = reflF p a b V U i := fun i => by rw [← qf]; exact refl_spec p a b (V i) (U i)
  obtain ⟨g0, qg⟩ : ∃ g0, (p - f) % p = g0 := ⟨_, rfl⟩
  rw [qg] at ht3 hg HE0
  have HE := Lib.hid HE0
  clear HE0 qg
  have hp0 : p ≠ 0 := by omega
  obtain ⟨ao, c, _, _, rfl, p2, p3, qx⟩ := hd.ints.out
  clear qx qa qd qb qf hd hu hv hm0 hm1 hmd hz
  obtain ⟨e0, e1, e2, e3⟩ := box0 w p ao n c 30
  go_enter Try.func68, Try.ntmps68
  go_wp2
  go_region_held3 (fun W => W.cell? ⟨w.heap.size, 0, none⟩ = some (.int .i64 p) ∧ W.cell? ⟨w.heap.size, 1, none⟩ = some (.slice ao n c) ∧ w.heap.size < W.heap.size ∧ Below w.heap.size w W)
    ((first | assumption | exact boxDrew ⟨e0, e1, e2, e3⟩ | exact boxKeep (by assumption) (by assumption)))
    ((first
      | (go_at_call 87; refine (CI.out _).mono ?_; rintro e w' ⟨rfl, rfl⟩)
      | (go_at_call 52; have hx := hb2'; refine Calls.makes' (C2.out _ (boxBelow (by assumption))) _ fun v4 hb4 => ?_)
      | (go_at_call 52; refine Calls.makes' (C1.out _ (boxBelow (by assumption))) _ fun v2 hb2' => ?_)))
  have bx3 : BoxD w p ao n c v4 := by assumption
  obtain ⟨k0, k1, k2, k3⟩ := bx3
  go_wp2
  go_region_held3 (fun W => W.cell? ⟨w.heap.size, 0, none⟩ = some (.int .i64 p) ∧ W.cell? ⟨w.heap.size, 1, none⟩ = some (.slice ao n c) ∧ w.heap.size < W.heap.size ∧ Below w.heap.size w W)
    ((first | assumption | exact boxDrew ⟨k0, k1, k2, k3⟩ | exact boxKeep (by assumption) (by assumption)))
    ((first
      | (go_at_call 88; refine (sPlus2_c _ _ _ n V U g0 _ (HW.out _ (boxBelow (by assumption))).ints (HU.out _ (boxBelow (by assumption))).ints (by omega) (by omega) (by omega) (HW.out _ (boxBelow (by assumption))).inp (HU.out _ (boxBelow (by assumption))).inp (by omega)).mono ?_; rintro e vz ⟨gz, cz, rfl, hgz, hbz, hOz⟩)))
  have b4 : Below w.heap.size w vz := boxBelow (by assumption)
  have t3 := k3.size
  have t4 : v4.heap.size ≤ gz := hgz
  go_wp2
  go_ret
  exact ⟨gz, cz, rfl, by omega, b4, hOz.congr fun i hi => by rw [HE.out]⟩

end Go.Proofs.Ytmedmkjlhcoepaa
