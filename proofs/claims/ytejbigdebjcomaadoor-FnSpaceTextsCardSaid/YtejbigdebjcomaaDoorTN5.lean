/-
  The reference's drawing of a text: it ends with a short text. Conditions: the code's size.
-/
import Derived.Test.YtejbigdebjcomaaDoorTN3
import Derived.Test.YtejbigdebjcomaaDoorTN4
set_option linter.unusedVariables false
set_option linter.unusedSimpArgs false
set_option maxRecDepth 100000
namespace Go.Proofs.YtejbigdebjcomaaDoor
open Go.RowKit


/-- where the loop stands -/
structure PhW (w wr : World) (g n : Nat) (cv : Value) (T : ByteArray) (fuel : Nat) : Prop where
  bel : Below w.heap.size w wr
  out : ∃ k h, SrcX wr g cv n k h ∧ Ph n k h T.size fuel

set_option maxRecDepth 100000 in
set_option maxHeartbeats 4000000 in
theorem sDrawPS_c (cv : Value) (n : Nat) (B : Nat → Int) (w : World) (hB : Byt w cv n B) (hn : n ≤ 4096) :
    Calls Tryd.prog 18 #[cv] w fun e w' => ∃ T : ByteArray, e = .returned (.string T) ∧ T.size ≤ 700000000 ∧ Below w.heap.size w w' := by
  have HF := Lib.hid (sFrom_c cv n B w hB)
  have HB : Hid (∀ W, Below w.heap.size w W → Byt W cv n B) := fun W hb => hB.below hb
  clear hB
  go_enter Tryd.func18, Tryd.ntmps18
  go_wp2_with fail
  refine HF.out.mono ?_
  rintro e w1 ⟨g, rfl, hg, hb1, hs1⟩
  have hcb : Hid (∀ W W', Below w.heap.size w W → Chg W W' (· = g) → Below w.heap.size w W') := fun W W' hb hc => hb.trans (hc.below hb.size fun k e => by have e : k = g := e; omega)
  have HD := Lib.hid (sDrawSp2_c g n cv B w1 hs1 (fun W hc => HB.out W (hcb.out _ _ hb1 hc)))
  clear HF hs1
  go_wp2_with fail
  refine HD.out.mono ?_
  rintro e w2 ⟨P, a, c, m, s, rfl, hok, hL, hd⟩
  have hb2 := Lib.hid (hcb.out _ _ hb1 hd.chg)
  have HT := Lib.hid (sSpText_c P _ m s w2 ⟨hL.ints, hok⟩)
  have HS := Lib.hid hd.src
  have hlen : Hid ((strB (txtL P s m)).size ≤ 28) := by
    show _ ≤ 28
    rw [strB_size]
    have h1 := txtL_len hok.bd hok.inp m (Nat.le_refl _)
    have h2 := hok.n6
    omega
  obtain ⟨T0, hT0⟩ : ∃ T0, strB (txtL P s m) = T0 := ⟨_, rfl⟩
  rw [hT0] at HT hlen
  clear HD hT0 hd hL hok hb1
  go_wp2_with fail
  refine Calls.makes' HT.out _ fun w3 hb3 => ?_
  obtain ⟨k0, h0, hs3⟩ := (HS.out.kept hb3).x
  obtain ⟨N, hN⟩ : ∃ N, n + 144115188075855900 = N := ⟨_, rfl⟩
  have p0 : Hid (PhW w w3 g n cv T0 N) := ⟨hb2.out.trans (hb3.mono hb2.out.size), k0, h0, hs3, by rw [← hN]; exact Ph.start h0 hs3.kn hlen.out⟩
  clear hN hs3 HS HT hlen hb2 hb3
  go_wp2
  go_loopg [4] N (fun gg t wr => ∃ (fuel : Nat) (T : ByteArray), Hid (gg = fuel) ∧ t = .string T ∧ Hid (PhW w wr g n cv T fuel))
  case atStart => exact ⟨N, T0, rfl, rfl, p0.out⟩
  case round =>
    obtain ⟨fuel, T, hgg, rfl, hP⟩ := hrel
    clear p0
    obtain ⟨hbr, k, h, hsr, hph⟩ := hP.out
    have HN := Lib.hid (sNextX_c g n cv B 3 k h wr hsr (HB.out _ hbr) (by omega))
    have HPH := Lib.hid hph
    have HBR := Lib.hid hbr
    clear hP hbr hsr hph
    go_wp2_with fail
    refine HN.out.mono ?_
    rintro e w5 ⟨x, rfl, hx, hxe, hs5, hc5⟩
    have HB5 := Lib.hid (hcb.out _ _ HBR.out hc5)
    have hsz := HPH.out.len hn
    clear HN HBR hc5
    by_cases hx0 : x = 0
    · subst hx0
      have HZ : Hid (k = n → xD (fL h) % 3 = 0) := fun e => (hxe e).symm
      have HDM := Lib.hid (sDamage_c g n cv B _ _ T w5 hs5 (HB.out _ HB5.out) (by omega))
      clear hxe hs5 hx
      go_wp2_with fail
      refine HDM.out.mono ?_
      rintro e w6 ⟨⟨T', rfl, hT', hcase⟩, hc6⟩
      have HB6 := Lib.hid (hcb.out _ _ HB5.out hc6)
      clear HDM hc6
      have hst : ∃ fuel', fuel' < fuel ∧ PhW w w6 g n cv T' fuel' := by
        rcases hcase with ⟨h1, h2⟩ | ⟨h1, h2⟩
        · obtain ⟨f', hf, hp⟩ := HPH.out.step HZ.out (Or.inl ⟨h1, rfl⟩) hT'
          rw [show min (min (k + 1) n + 1) n = min (k + 2) n by omega] at h2
          exact ⟨f', hf, HB6.out, _, _, h2, hp⟩
        · obtain ⟨f', hf, hp⟩ := HPH.out.step HZ.out (Or.inr ⟨h1, rfl⟩) hT'
          rw [show min (min (k + 1) n + 3) n = min (k + 4) n by omega] at h2
          exact ⟨f', hf, HB6.out, _, _, h2, hp⟩
      obtain ⟨fuel', hfu, hPW⟩ := hst
      have HPW := Lib.hid hPW
      clear hPW hcase
      have HFU := Lib.hid hfu
      clear hfu
      go_wp2
      go_roundg fuel'
      case measure => have := hgg.out; have := HFU.out; omega
      case rel => exact ⟨fuel', T', rfl, rfl, HPW.out⟩
    · have hxb : (x == 0) = false := beq_eq_false_iff_ne.2 hx0
      go_wp2
      go_ret
      exact ⟨T, rfl, hsz, HB5.out⟩

end Go.Proofs.YtejbigdebjcomaaDoor
