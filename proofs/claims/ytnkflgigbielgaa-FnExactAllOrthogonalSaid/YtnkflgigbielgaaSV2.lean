/-
  VectorsOfNorm, by the reference. No condition beside sizes.
-/
import Derived.Test.YtnkflgigbielgaaSV1
import Derived.Test.YtnkflgigbielgaaD41
set_option linter.unusedVariables false
set_option linter.unusedSimpArgs false
namespace Go.Proofs.Ytnkflgigbielgaa
open Go.RowKit

/-- an owned table that has nothing in block x -/
structure OTabN (w : World) (B x g cap G : Nat) (L : Nat → Nat) (T : Nat → Nat → Int) : Prop where
  out : ∃ R C : Nat → Nat, Own w 24 g cap G (fun i => .slice (some ⟨R i, 0, none⟩) (L i) (C i)) ∧ (B ≤ g ∧ g ≠ x) ∧
    (∀ i, i < G → Own w 2 (R i) (C i) (L i) (fun j => .int .i64 (T i j)) ∧ B ≤ R i ∧ R i ≠ g ∧ R i ≠ x) ∧ ∀ i j, i < G → j < i → R i ≠ R j
theorem OTabN.otab {w : World} {B x g cap G : Nat} {L : Nat → Nat} {T : Nat → Nat → Int} (h : OTabN w B x g cap G L T) : OTab w B g cap G L T := by
  obtain ⟨R, C, h1, h2, h3, h4⟩ := h.out
  exact ⟨R, C, h1, h2.1, fun i hi => ⟨(h3 i hi).1, (h3 i hi).2.1, (h3 i hi).2.2.1⟩, h4⟩
theorem OTabN.kept {w w' : World} {B x g cap G : Nat} {L : Nat → Nat} {T : Nat → Nat → Int} (h : OTabN w B x g cap G L T) (hb : Below w.heap.size w w') : OTabN w' B x g cap G L T := by
  obtain ⟨R, C, h1, h2, h3, h4⟩ := h.out
  exact ⟨R, C, h1.kept hb, h2, fun i hi => ⟨(h3 i hi).1.kept hb, (h3 i hi).2⟩, h4⟩
theorem OTabN.chg {w w' : World} {B x g cap G : Nat} {L : Nat → Nat} {T : Nat → Nat → Int} (h : OTabN w B x g cap G L T) (hc : Chg w w' (· = x)) : OTabN w' B x g cap G L T := by
  obtain ⟨R, C, h1, h2, h3, h4⟩ := h.out
  exact ⟨R, C, hc.own h1 h2.2, h2, fun i hi => ⟨hc.own (h3 i hi).1 (h3 i hi).2.2.2, (h3 i hi).2⟩, h4⟩
theorem OTabN.congr {w : World} {B x g cap G : Nat} {L L' : Nat → Nat} {T T' : Nat → Nat → Int} (h : OTabN w B x g cap G L T) (hL : ∀ i, i < G → L i = L' i) (hT : ∀ i j, i < G → j < L i → T i j = T' i j) : OTabN w B x g cap G L' T' := by
  obtain ⟨R, C, h1, h2, h3, h4⟩ := h.out
  exact ⟨R, C, h1.congr fun i hi => by rw [hL i hi], h2, fun i hi => ⟨by rw [← hL i hi]; exact (h3 i hi).1.congr fun j hj => by rw [hT i j hi hj], (h3 i hi).2⟩, h4⟩
theorem OTabN.pushAt {w : World} {B x g cap G : Nat} {L : Nat → Nat} {T : Nat → Nat → Int} (h : OTabN w B x g cap G L T) (hB : B ≤ w.heap.size) (hx : x < w.heap.size) : ∃ V, Own w 24 g cap G V ∧
    ∀ (wr w' : World) (g' cap' r c n : Nat) (X : Nat → Int), Below w.heap.size w wr → Own wr 2 r c n (fun j => .int .i64 (X j)) → w.heap.size ≤ r → Own w' 24 g' cap' (G + 1) (fun j => if j = G then .slice (some ⟨r, 0, none⟩) n c else V j) →
      (g' = g ∨ wr.heap.size ≤ g') → wr.grownBy w' (some g) → OTabN w' B x g' cap' (G + 1) (fun i => if i = G then n else L i) (fun i => if i = G then X else T i) := by
  obtain ⟨R, C, h1, h2, h3, h4⟩ := h.out
  refine ⟨_, h1, fun wr w' g' cap' r c n X hb hr hrB hO hg hgr => ?_⟩
  have hs := hb.size
  have hgl := h1.lt
  refine ⟨fun i => if i = G then r else R i, fun i => if i = G then c else C i, hO.congr fun i hi => ?_, ⟨by omega, by omega⟩, fun i hi => ?_, fun i j hi hj => ?_⟩
  · by_cases e : i = G
    · subst e; simp
    · simp [e]
  · by_cases e : i = G
    · subst e; simp only [if_true]
      have := hr.lt
      exact ⟨hr.grown hgr (by intro e; injection e with e; omega), by omega, by omega, by omega⟩
    · have hi' : i < G := by omega
      simp only [if_neg e]
      have h5 := (h3 i hi').1.lt
      refine ⟨((h3 i hi').1.kept hb).grown hgr (by intro e; injection e with e; exact (h3 i hi').2.2.1 e.symm), (h3 i hi').2.1, ?_, (h3 i hi').2.2.2⟩
      rcases hg with h | h
      · rw [h]; exact (h3 i hi').2.2.1
      · omega
  · by_cases e : i = G
    · subst e
      have := (h3 j hj).1.lt
      simp only [if_true, if_neg (show j ≠ i by omega)]; omega
    · simp only [if_neg e, if_neg (show j ≠ G by omega)]; exact h4 i j (by omega) hj

/-- the code of the vectors of a norm -/
def vCode (p : Int) (n : Nat) (s : Nat → Int) (c : Int) : Int := if spB p n s then (if inB c 0 (p - 1) then (if 5000 < p ^ n then 3 else 0) else 2) else 1
def okV (p : Int) (s : Nat → Int) (n : Nat) (c : Int) (t : Nat) : Bool := pairF p s n (vecT p n t) (vecT p n t) == c
def vonT (p : Int) (s : Nat → Int) (n : Nat) (c : Int) (i : Nat) : Nat → Int := vecT p n (sel (okV p s n c) (p ^ n).toNat i)
theorem vecT_zero (p : Int) (n i : Nat) : vecT p n 0 i = 0 := by unfold vecT; simp

/-- what the next vector is, in the order -/
theorem next_vecT {p : Int} (hp : 1 ≤ p) {n t : Nat} {X' : Nat → Int} {b : Bool} (ht : (t : Int) < p ^ n)
    (h : (b = true ∧ InP p n X' ∧ valV p X' n = valV p (vecT p n t) n + 1) ∨ (b = false ∧ valV p (vecT p n t) n = p ^ n - 1)) :
    (b = true ∧ ((t + 1 : Nat) : Int) < p ^ n ∧ ∀ i, i < n → X' i = vecT p n (t + 1) i) ∨ (b = false ∧ ((t + 1 : Nat) : Int) = p ^ n) := by
  have hv : valV p (vecT p n t) n = t := by
    rw [val_vecT hp n t n (Nat.le_refl _), Nat.sub_self, Int.pow_zero, Int.ediv_one, Int.emod_eq_of_lt (by omega) ht]
  rw [hv] at h
  rcases h with ⟨rfl, h1, h2⟩ | ⟨rfl, h2⟩
  · have hb := valV_bd hp h1
    have h3 : ((t + 1 : Nat) : Int) < p ^ n := by omega
    exact Or.inl ⟨rfl, h3, vecT_val hp h3 h1 (by omega)⟩
  · exact Or.inr ⟨rfl, by omega⟩

set_option maxRecDepth 100000 in
set_option maxHeartbeats 4000000 in
theorem sVectorsOfNorm_c (p : Int) (sv : Value) (n : Nat) (s : Nat → Int) (k : Int) (w : World) (h : Ints w sv n s) :
    Calls Try.prog 26 #[dbl p sv, .int .i64 k] w fun e w' => ResCT w w' e (vCode p n s k) (cnt (okV p s n k) (p ^ n).toNat) (fun _ => n) (vonT p s n k) := by
  have H' := Lib.hid h
  obtain ⟨ao, c, b, o, rfl, p2, p3, qx⟩ := h.out
  clear qx
  obtain ⟨e0, e1, e2, e3⟩ := box0 w p ao n c 26
  have BX := Lib.hid (box0 w p ao n c 26)
  cases hok : spB p n s
  · have hvc : vCode p n s k = 1 := by unfold vCode; rw [hok]; rfl
    rw [hvc]
    go_enter Try.func26, Try.ntmps26
    go_wp2_with fail
    refine Calls.makes' (sIsSp_c _ _ _ _ _ (H'.out.below e3)) _ fun w1 hb1 => ?_
    rw [hok]
    go_wp2
    go_ret2
    exact ⟨e3.trans (hb1.mono e3.size), Or.inr ⟨by decide, rfl⟩⟩
  · have hsp := spB_ok hok
    have hpb := hsp.bd
    have hn6 := hsp.n6
    have hvc : vCode p n s k = if inB k 0 (p - 1) then (if 5000 < p ^ n then 3 else 0) else 2 := by unfold vCode; rw [hok]; rfl
    rw [hvc]
    have HOK := Lib.hid hok
    have HV : Hid (∀ W, Below w.heap.size w W → SV W (.slice ao n c) p n s) := fun W hb => ⟨H'.out.below hb, hsp⟩
    obtain ⟨q, hq⟩ : ∃ q, inB k 0 (p - 1) = q := ⟨_, rfl⟩
    have HI : Hid (∀ W, Calls Try.prog 82 #[.int .i64 k, .int .i64 0, .int .i64 (p - 1)] W fun e w' => e = .returned (.bool q) ∧ W = w') := fun W => hq ▸ sIn_c _ _ _ W
    rw [hq]
    cases q
    · rw [if_neg (by simp)]
      clear hok hsp hvc hq h
      go_enter Try.func26, Try.ntmps26
      go_wp2_with fail
      refine Calls.makes' (sIsSp_c _ _ _ _ _ (H'.out.below e3)) _ fun w1 hb1 => ?_
      rw [HOK.out]
      obtain ⟨f0, f1, f2, f3⟩ := boxKeep hb1 BX.out
      go_wp2_with (go_at_call 82; refine (HI.out _).mono ?_; rintro e w' ⟨rfl, rfl⟩)
      go_ret2
      exact ⟨f3, Or.inr ⟨by decide, rfl⟩⟩
    · rw [if_pos rfl]
      have hpn := pow_sm hpb.1 hpb.2 hn6
      obtain ⟨tT, hT⟩ := Int.eq_ofNat_of_zero_le (show 0 ≤ p ^ n by omega)
      have HM : Hid (∀ W, Below w.heap.size w W → Calls Try.prog 83 #[dbl p (.slice ao n c)] W fun e w' => Makes W w' e (.bool (decide (5000 < (tT : Int))))) := fun W hb => hT ▸ sMany_c p _ n s W (HV.out W hb)
      have HTT := Lib.hid hT
      rw [hT, Int.toNat_natCast]
      by_cases hmany : 5000 < tT
      · have hdm : decide (5000 < (tT : Int)) = true := decide_eq_true (by omega)
        rw [if_pos (by omega)]
        rw [hdm] at HM
        clear hok hsp hvc hq h hT hpn
        go_enter Try.func26, Try.ntmps26
        go_wp2_with fail
        refine Calls.makes' (sIsSp_c _ _ _ _ _ (H'.out.below e3)) _ fun w1 hb1 => ?_
        rw [HOK.out]
        obtain ⟨f0, f1, f2, f3⟩ := boxKeep hb1 BX.out
        go_wp2_with (go_at_call 82; refine (HI.out _).mono ?_; rintro e w' ⟨rfl, rfl⟩)
        refine Calls.makes' (HM.out _ f3) _ fun w2 hb2 => ?_
        go_wp2
        go_ret2
        exact ⟨f3.trans (hb2.mono f3.size), Or.inr ⟨by decide, rfl⟩⟩
      · have hdm : decide (5000 < (tT : Int)) = false := decide_eq_false (by omega)
        rw [if_neg (by omega)]
        rw [hdm] at HM
        have hT1 : 1 ≤ tT := by omega
        have hTle : tT ≤ 5000 := by omega
        have hres : ∀ (w' : World) (e : Ending), Below w.heap.size w w' → (∃ g c, e = .returned (.tuple #[.slice (some ⟨g, 0, none⟩) (cnt (okV p s n k) tT) c, .int .i64 0]) ∧ OTab w' w.heap.size g c (cnt (okV p s n k) tT) (fun _ => n) (fun i => vecT p n (sel (okV p s n k) tT i))) → ResCT w w' e 0 (cnt (okV p s n k) tT) (fun _ => n) (vonT p s n k) := fun w' e h1 ⟨g, c, h2, h3⟩ => ⟨h1, Or.inl ⟨rfl, g, c, h2, by
          have e : vonT p s n k = fun i => vecT p n (sel (okV p s n k) tT i) := by funext i; unfold vonT; rw [hT, Int.toNat_natCast]
          rw [e]; exact h3⟩⟩
        have HRes := Lib.hid hres
        have hnext : ∀ t, t < tT → ∀ (W : World) (g : Nat), Own W 2 g n n (fun i => .int .i64 (vecT p n t i)) → Calls Try.prog 84 #[.int .i64 p, .slice (some ⟨g, 0, none⟩) n n] W fun e w' => ∃ b, e = .returned (.bool b) ∧ Chg W w' (· = g) ∧ ((b = true ∧ t + 1 < tT ∧ Own w' 2 g n n (fun i => .int .i64 (vecT p n (t + 1) i))) ∨ (b = false ∧ t + 1 = tT)) := fun t ht W g hO =>
          (sNextV_c p g n (vecT p n t) W hO (vecT_in (by omega) n t n) (by omega) (by omega) (by omega)).mono fun e w' ⟨b, he, hnv⟩ => by
            obtain ⟨X', hO', hcase⟩ := hnv.out
            rcases next_vecT (show 1 ≤ p by omega) (t := t) (by rw [hT]; omega) hcase with ⟨rfl, h1, h2⟩ | ⟨rfl, h1⟩
            · exact ⟨true, he, hnv.chg, Or.inl ⟨rfl, by rw [hT] at h1; omega, hO'.congr fun i hi => by rw [h2 i hi]⟩⟩
            · exact ⟨false, he, hnv.chg, Or.inr ⟨rfl, by rw [hT] at h1; omega⟩⟩
        have HNX := Lib.hid hnext
        clear hok hsp hvc hq h hT hpn hres hnext hmany hdm
        go_enter Try.func26, Try.ntmps26
        go_wp2_with fail
        refine Calls.makes' (sIsSp_c _ _ _ _ _ (H'.out.below e3)) _ fun w1 hb1 => ?_
        rw [HOK.out]
        obtain ⟨f0, f1, f2, f3⟩ := boxKeep hb1 BX.out
        go_wp2_with (go_at_call 82; refine (HI.out _).mono ?_; rintro e w' ⟨rfl, rfl⟩)
        refine Calls.makes' (HM.out _ f3) _ fun w2 hb2 => ?_
        have bx2 := boxKeep hb2 ⟨f0, f1, f2, f3⟩
        have ba : Below w2.heap.size w2 (w2.alloc (.cells #[] 24)) := (Below.refl _ _).alloc (Nat.le_refl _) _
        have BXA := Lib.hid (boxKeep ba bx2)
        obtain ⟨y0, y1, y2, y3⟩ := BXA.out
        have hTe : OTab (w2.alloc (.cells #[] 24)) w2.heap.size w2.heap.size 0 0 (fun _ => 0) (fun _ _ => 0) := OTab.empty w2
        have hsz : Hid ((w2.alloc (.cells #[] 24)).heap.size = w2.heap.size + 1) := alloc_size _ _
        have hw2 := bx2.2.2.1
        have HTE := Lib.hid hTe
        clear e0 e1 e2 e3 f0 f1 f2 f3 hb1 hb2 bx2 ba hTe
        go_wp2_with (at_make; refine wpList_mkA _ rfl _ _ _ _ elI rfl rfl .i64 .i64 n rfl rfl (by omega) (by omega) ?_; intro W3 hB3 hS3 hO3; have HS3 := Lib.hid hS3; clear hS3)
        rw [hsz.out] at hO3
        obtain ⟨gv, hgv⟩ : ∃ gv, w2.heap.size + 1 = gv := ⟨_, rfl⟩
        have hgl := hO3.lt
        rw [hgv] at hO3 hgl
        have hT3 : OTabN W3 (w.heap.size + 1) gv w2.heap.size 0 0 (fun _ => n) (fun i => vecT p n (sel (okV p s n k) 0 i)) := by
          have h := (HTE.out.kept hB3).out
          obtain ⟨R, C, h1, h2, h3, h4⟩ := h
          exact ⟨R, C, h1.congr fun i hi => absurd hi (Nat.not_lt_zero _), ⟨by omega, by omega⟩, fun i hi => absurd hi (Nat.not_lt_zero _), fun i j hi => absurd hi (Nat.not_lt_zero _)⟩
        have HT3 := Lib.hid hT3
        have HO3 : Hid (Own W3 2 gv n n (fun i => .int .i64 (vecT p n 0 i))) := hO3.congr fun i hi => by rw [vecT_zero]
        have BX3 := Lib.hid (boxKeep hB3 BXA.out)
        have hwg : w.heap.size < gv := by omega
        try rw [hsz.out]
        try rw [hgv]
        clear hT3 hO3 hB3 HTE BXA y0 y1 y2 y3 hsz HS3
        go_loopg [6, 8] tT (fun g o mo wr => ∃ t : Nat, t ≤ tT ∧ g = tT - t ∧ BoxD w p ao n c wr ∧ gv < wr.heap.size ∧ (∃ g' c' G, o = .slice (some ⟨g', 0, none⟩) G c' ∧ Hid (G = cnt (okV p s n k) t ∧ OTabN wr (w.heap.size + 1) gv g' c' G (fun _ => n) (fun i => vecT p n (sel (okV p s n k) t i)))) ∧ ((t < tT ∧ mo = .bool true ∧ Hid (Own wr 2 gv n n (fun i => .int .i64 (vecT p n t i)))) ∨ (t = tT ∧ mo = .bool false)))
        case atStart => exact ⟨0, Nat.zero_le _, rfl, BX3.out, hgl, ⟨w2.heap.size, 0, 0, rfl, ⟨rfl, HT3.out⟩⟩, Or.inl ⟨hT1, rfl, HO3.out⟩⟩
        case round =>
          obtain ⟨t, ht, rfl, ⟨f0, f1, f2, f3⟩, hgw, ⟨g', c', G, rfl, hTb⟩, hph⟩ := hrel
          clear HT3 HO3 BX3 hgl
          have BXr := Lib.hid (show BoxD w p ao n c wr from ⟨f0, f1, f2, f3⟩)
          rcases hph with ⟨hlt, rfl, hOv⟩ | ⟨rfl, rfl⟩
          · obtain ⟨a, ha⟩ : ∃ a, pairF p s n (vecT p n t) (vecT p n t) = a := ⟨_, rfl⟩
            have HP : Hid (∀ W, Below w.heap.size w W → Ints W (.slice (some ⟨gv, 0, none⟩) n n) n (vecT p n t) → Calls Try.prog 67 #[dbl p (.slice ao n c), .slice (some ⟨gv, 0, none⟩) n n, .slice (some ⟨gv, 0, none⟩) n n] W fun e w' => Makes W w' e (.int .i64 a)) := fun W hb hi => ha ▸ sPair_c p _ _ _ n s _ _ W (HV.out W hb) ⟨hi, vecT_in (by omega) n t n⟩ ⟨hi, vecT_in (by omega) n t n⟩
            have hoke : Hid (okV p s n k t = (a == k)) := by unfold okV; rw [ha]; exact rfl
            have hGle : Hid (G ≤ t) := by rw [hTb.out.1]; exact cnt_le _ _
            have hG0 := hGle.out
            clear ha
            cases hq : (a == k)
            · go_wp2_with fail
              go_at_call 67
              refine Calls.makes' (HP.out _ f3 hOv.out.ints) _ fun w4 hb4 => ?_
              have bx4 := boxKeep hb4 BXr.out
              obtain ⟨k0, k1, k2, k3⟩ := bx4
              have hs4 := hb4.size
              clear f0 f1
              go_wp2_with fail
              go_at_call 84
              refine (HNX.out t hlt _ gv (hOv.out.kept hb4)).mono ?_
              rintro e w5 ⟨b, rfl, hc, hcase⟩
              have BX5 := Lib.hid (boxChg hc hwg ⟨k0, k1, k2, k3⟩)
              have hs5 := hc.size
              have HT5 : Hid (G = cnt (okV p s n k) (t + 1) ∧ OTabN w5 (w.heap.size + 1) gv g' c' G (fun _ => n) (fun i => vecT p n (sel (okV p s n k) (t + 1) i))) := by
                obtain ⟨hG, hO⟩ := hTb.out
                have hn : okV p s n k t = false := hoke.out.trans hq
                exact ⟨by simp [cnt, hn, hG], ((hO.kept hb4).chg hc).congr (fun i hi => rfl) (fun i j hi hj => by rw [sel_old (by omega)])⟩
              clear k0 k1 hc
              rcases hcase with ⟨rfl, hn1, hO5⟩ | ⟨rfl, hn1⟩
              · go_wp2
                go_roundg (tT - (t + 1))
                case measure => omega
                case rel => exact ⟨t + 1, by omega, rfl, BX5.out, by omega, ⟨g', c', G, rfl, HT5.out⟩, Or.inl ⟨hn1, rfl, hO5⟩⟩
              · go_wp2
                go_roundg (tT - (t + 1))
                case measure => omega
                case rel => exact ⟨t + 1, by omega, rfl, BX5.out, by omega, ⟨g', c', G, rfl, HT5.out⟩, Or.inr ⟨hn1, rfl⟩⟩
            · go_wp2_with fail
              go_at_call 67
              refine Calls.makes' (HP.out _ f3 hOv.out.ints) _ fun w4 hb4 => ?_
              have bx4 := Lib.hid (boxKeep hb4 BXr.out)
              have hs4 := hb4.size
              have hT4 := hTb.out.2.kept hb4
              obtain ⟨V, hV, hpush⟩ := hT4.pushAt (show w.heap.size + 1 ≤ w4.heap.size by omega) (by omega)
              have HPU := Lib.hid hpush
              have HVV := Lib.hid hV
              have hgl := hV.lt
              have hgn := hT4.out
              clear f0 f1 hpush hV
              go_wp2_with fail
              go_at_call 85
              refine (sOwn_c gv n n (vecT p n t) _ (hOv.out.kept hb4) (by omega)).mono ?_
              rintro e w6 ⟨g6, c6, rfl, hg6, hb6, hO6⟩
              have hV2 := HVV.out.kept hb6
              have hs6 := hb6.size
              have bx6 := Lib.hid (boxKeep hb6 bx4.out)
              have hOv6 := Lib.hid ((hOv.out.kept hb4).kept hb6)
              have hgne : g' ≠ gv := by obtain ⟨R, C, _, h2, _⟩ := hgn; exact h2.2
              have hgB : w.heap.size + 1 ≤ g' := by obtain ⟨R, C, _, h2, _⟩ := hgn; exact h2.1
              clear hT4 hgn
              go_wp2_with (at_builtin; refine wpList_push _ rfl _ _ _ _ elR rfl hV2 (.slice (some ⟨g6, 0, none⟩) n c6) rfl rfl rfl (by omega) (by omega) ?_; intro g3 c3 w3 hO3 hg3 hgr3; have bx7 := boxGrown hgr3 (by omega) bx6.out; obtain ⟨k0, k1, k2, k3⟩ := bx7; have hOv7 := hOv6.out.grown hgr3 (fun e => by injection e with e; exact hgne e))
              go_at_call 84
              refine (HNX.out t hlt _ gv hOv7).mono ?_
              rintro e w5 ⟨b, rfl, hc, hcase⟩
              have BX5 := Lib.hid (boxChg hc hwg ⟨k0, k1, k2, k3⟩)
              have hs5 := hc.size
              have hs7 := hgr3.size
              have HT5 : Hid (G + 1 = cnt (okV p s n k) (t + 1) ∧ OTabN w5 (w.heap.size + 1) gv g3 c3 (G + 1) (fun _ => n) (fun i => vecT p n (sel (okV p s n k) (t + 1) i))) := by
                have hG := hTb.out.1
                have hn : okV p s n k t = true := hoke.out.trans hq
                refine ⟨by simp [cnt, hn, hG], ((HPU.out _ _ _ _ _ _ _ _ hb6 hO6 hg6 hO3 hg3 hgr3).chg hc).congr (fun i hi => by by_cases e : i = G <;> simp [e]) (fun i j hi hj => ?_)⟩
                by_cases e : i = G
                · subst e; simp only [if_true]; rw [hG, sel_new hn]
                · simp only [if_neg e]; rw [sel_old (by omega)]
              clear k0 k1 hc
              rcases hcase with ⟨rfl, hn1, hO5⟩ | ⟨rfl, hn1⟩
              · go_wp2
                go_roundg (tT - (t + 1))
                case measure => omega
                case rel => exact ⟨t + 1, by omega, rfl, BX5.out, by omega, ⟨g3, c3, G + 1, rfl, HT5.out⟩, Or.inl ⟨hn1, rfl, hO5⟩⟩
              · go_wp2
                go_roundg (tT - (t + 1))
                case measure => omega
                case rel => exact ⟨t + 1, by omega, rfl, BX5.out, by omega, ⟨g3, c3, G + 1, rfl, HT5.out⟩, Or.inr ⟨hn1, rfl⟩⟩
          · obtain ⟨hG, hO⟩ := hTb.out
            subst hG
            have HO := Lib.hid hO
            clear hO
            go_wp2
            go_ret2
            exact HRes.out _ _ f3 ⟨g', c', rfl, HO.out.otab.mono (by omega)⟩

end Go.Proofs.Ytnkflgigbielgaa
