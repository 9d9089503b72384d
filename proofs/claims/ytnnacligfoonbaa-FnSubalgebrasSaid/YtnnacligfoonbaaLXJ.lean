/-
  A drawn doubling and a list of three elements. No condition beside sizes.
-/
import Derived.Test.YtnnacligfoonbaaLX2
import Derived.Test.YtnnacligfoonbaaLC2
import Derived.Test.YtnnacligfoonbaaD24
import Derived.StillTailTactics
set_option linter.unusedVariables false
set_option linter.unusedSimpArgs false
namespace Go.Proofs.Ytnnacligfoonbaa
open Go.RowKit

/-- a list that stays while the blocks from lo to hi stay -/
def RowI (w : World) (v : Value) (m : Nat) (X : Nat → Int) (lo hi : Nat) : Prop := ∀ W, Chg w W (fun b => b < lo ∨ hi ≤ b) → Ints W v m X
theorem RowI.step {w w' : World} {v : Value} {m : Nat} {X : Nat → Int} {lo hi : Nat} {S : Nat → Prop} (h : RowI w v m X lo hi) (hc : Chg w w' S) (hS : ∀ b, S b → b < lo ∨ hi ≤ b) : RowI w' v m X lo hi :=
  fun W hW => h W ((hc.mono hS).trans hW)
theorem RowI.hi {w : World} {v : Value} {m : Nat} {X : Nat → Int} {lo hi hi' : Nat} (h : RowI w v m X lo hi) (hh : hi ≤ hi') : RowI w v m X lo hi' := fun W hW => h W (hW.mono fun b e => by rcases e with e | e <;> omega)
theorem DK.by {w wr w' : World} {g : Nat} {cv : Value} {n bd : Nat} {P : Int} {a : Option Addr} {c m : Nat} {s : Nat → Int} {S : Nat → Prop} (h : DK w wr g cv n bd P a c m s) (hc : Chg wr w' S) (hS : ∀ k, S k → bd < k) : DK w w' g cv n bd P a c m s := by
  have ho := h.ord
  have hs := hc.size
  exact ⟨⟨ho.1, ho.2.1, by omega⟩, h.src.by hc (fun e => by have := hS g e; omega), h.bel.trans (hc.below h.bel.size (fun k e => by have := hS k e; omega)), hc.own h.box (fun e => by have := hS bd e; omega), hc.own h.res (fun e => by have := hS _ e; omega), h.lst.by hc fun k e => by have := hS k e; omega⟩
/-- what is known of the drawn elements: k of them, the list at block g2 -/
structure Els (w wr : World) (g g2 c2 k : Nat) (V : Nat → Value) (L : Nat → Nat) (T : Nat → Nat → Int) : Prop where
  own : Own wr 24 g2 c2 k V
  row : ∀ i, i < k → ∃ (ao : Option Addr) (c : Nat), V i = .slice ao (L i) c ∧ L i ≤ 16 ∧ ∃ lo hi, RowI wr (V i) (L i) (T i) lo hi ∧ g < lo ∧ w.heap.size < lo ∧ hi ≤ wr.heap.size ∧ (g2 < lo ∨ hi ≤ g2)

/-- what the draw hands back -/
structure Drawn12 (w w' : World) (e : Ending) : Prop where
  out : ∃ (P : Int) (a : Option Addr) (c m : Nat) (s : Nat → Int) (gt ct : Nat) (V : Nat → Value) (L : Nat → Nat) (T : Nat → Nat → Int), e = .returned (.tuple #[dbl P (.slice a m c), .slice (some ⟨gt, 0, none⟩) 3 ct]) ∧ Below w.heap.size w w' ∧ OI w' w.heap.size w'.heap.size a c m s ∧ Own w' 24 gt ct 3 V ∧ w.heap.size ≤ gt ∧
    (∀ i, i < 3 → ∃ (ao : Option Addr) (cc lo : Nat), V i = .slice ao (L i) cc ∧ L i ≤ 16 ∧ w.heap.size < lo ∧ RowI w' (V i) (L i) (T i) lo w'.heap.size)

set_option maxRecDepth 100000 in
set_option maxHeartbeats 8000000 in
theorem s12Draw_c (cv : Value) (n : Nat) (B : Nat → Int) (w : World) (hB : Byt w cv n B) :
    Calls Try.prog 114 #[cv, .int .i64 3] w fun e w' => Drawn12 w w' e := by
  have HB : Hid (∀ W, Below w.heap.size w W → Byt W cv n B) := fun W hb => hB.below hb
  obtain ⟨wa, hwa⟩ : ∃ wa, wa = w.alloc (.cells #[.int .i64 0, .slice none 0 0] 26) := ⟨_, rfl⟩
  have hba : Below w.heap.size w wa := by rw [hwa]; exact (Below.refl _ _).alloc (Nat.le_refl _) _
  have hsa : wa.heap.size = w.heap.size + 1 := by rw [hwa]; simp
  have hra : Own wa 26 w.heap.size 2 2 (fun i => if i = 0 then .int .i64 0 else .slice none 0 0) := by rw [hwa]; exact own2 w _ _ _
  have hp1 := sFrom_c cv n B wa (hB.below hba)
  rw [hwa] at hp1
  have HP1 := Lib.hid hp1
  have HWA := Lib.hid hwa
  have HRA := Lib.hid hra
  have HBA := Lib.hid hba
  have HSZ := Lib.hid hsa
  obtain ⟨ao, c0, _, _, rfl, _⟩ := hB.out
  clear hwa hra hba hp1 hB hsa
  go_enter Try.func114, Try.ntmps114
  go_wp2_with fail
  refine HP1.out.mono ?_
  rintro e w1 ⟨g, rfl, hg, hb1, hs1⟩
  rw [← HWA.out] at hg hb1
  have hb1a := Lib.hid (HBA.out.trans (hb1.mono HBA.out.size))
  have hra1 := Lib.hid (HRA.out.kept hb1)
  have hsz := HSZ.out
  have hD := Lib.hid (sDrawAny_c g n _ B 4 w1 hs1 (fun W hc => HB.out W (hb1a.out.trans (hc.below hb1a.out.size (fun k e => by have e : k = g := e; omega)))) (by omega))
  clear HP1 HWA HRA HBA hb1
  go_wp2_with fail
  refine hD.out.mono ?_
  rintro e w2 ⟨P, a, c, m, s, rfl, hm, hP, hL, hd⟩
  have hl1 := hb1a.out.size
  have hb2 := Lib.hid (hb1a.out.trans (hd.below hl1 (by omega)))
  have hra2 := Lib.hid (hd.chg.own hra1.out (by show ¬ w.heap.size = g; omega))
  have hlt := hra1.out.lt
  have hgl := hs1.lt
  obtain ⟨wb, hwb⟩ : ∃ wb, wb = w2.alloc (.cells #[.int .i64 P, .slice a m c] 26) := ⟨_, rfl⟩
  have hbb : Below w2.heap.size w2 wb := by rw [hwb]; exact (Below.refl _ _).alloc (Nat.le_refl _) _
  have hsb : wb.heap.size = w2.heap.size + 1 := by rw [hwb]; simp
  have hsd := hd.chg.size
  have hDK : DK w wb g (.slice ao n c0) n w2.heap.size P a c m s := ⟨⟨by omega, by omega, by omega⟩, hd.src.kept hbb, hb2.out.trans (hbb.mono (by have := hb2.out.size; omega)), by rw [hwb]; exact own2 w2 _ _ _, hra2.out.kept hbb, (hL.lowH (by omega) (Nat.le_refl _)).kept hbb⟩
  obtain ⟨bd, hbd⟩ : ∃ bd, w2.heap.size = bd := ⟨_, rfl⟩
  have hE0 : Hid (∃ W0, W0 = wb.alloc (.cells #[] 24) ∧ DK w W0 g (.slice ao n c0) n bd P a c m s ∧ Own W0 24 (bd + 1) 0 0 (fun _ => .slice none 0 0)) := by
    refine ⟨_, rfl, hbd ▸ hDK.kept ((Below.refl _ _).alloc (Nat.le_refl _) _), ?_⟩
    have ho := Own.empty wb 24 (fun _ => .slice none 0 0)
    rw [hsb, hbd] at ho
    exact ho
  rw [hwb] at hE0
  have ho := hDK.ord
  rw [hbd] at ho
  have HBD := Lib.hid hbd
  clear hDK hsb hbb hwb hD hd hb2 hL hra1 hra2 HSZ hb1a hs1
  go_wp2
  go_loopg [1, 8] 3 (fun gg cn sl wr => ∃ k : Nat, k ≤ 3 ∧ gg = 3 - k ∧ cn = .int .i64 (3 - (k : Int)) ∧ ∃ (g2 c2 : Nat) (V : Nat → Value) (L : Nat → Nat) (T : Nat → Nat → Int), sl = .slice (some ⟨g2, 0, none⟩) k c2 ∧ bd < g2 ∧ Hid (DK w wr g (.slice ao n c0) n bd P a c m s) ∧ Hid (Els w wr g g2 c2 k V L T))
  case atStart =>
    obtain ⟨W0, hW0, q1, q2⟩ := hE0
    subst hW0
    exact ⟨0, by omega, rfl, rfl, bd + 1, 0, _, fun _ => 0, fun _ _ => 0, rfl, by omega, q1, q2, fun i hi => absurd hi (Nat.not_lt_zero _)⟩
  case round =>
    obtain ⟨k, hk, rfl, rfl, g2, c2, V, L, T, rfl, hg2, hD, hE⟩ := hrel
    clear hE0 hbd
    have z0 := hD.out.box.cell (show 0 < 2 by omega)
    have z1 := hD.out.box.cell (show 1 < 2 by omega)
    simp only [if_pos, if_neg (show ¬ (1 : Nat) = 0 by omega)] at z0 z1
    by_cases hlt : k < 3
    · have HP := Lib.hid (sDkElem_c hD.out HB.out hm hP)
      have hgl2 := hE.out.own.lt
      have hod := hD.out.ord
      go_wp2_with fail
      go_at_call 90
      refine HP.out.mono ?_
      rintro e w3 ⟨v, kk, X, rfl, hkk, hX, hD3, hc3⟩
      obtain ⟨ao1, cc1, _, _, rfl, qv⟩ := (hX w3 (Chg.refl _ _)).out
      have hOw := hc3.own hE.out.own (by show ¬ g2 = g; omega)
      have HX : Hid (RowI w3 (.slice ao1 kk cc1) kk X wr.heap.size w3.heap.size) := hX
      have HD3 := Lib.hid hD3
      have HC3 := Lib.hid hc3
      have hs3 := hc3.size
      clear qv hX hD3 hc3 HP z0 z1
      go_wp2_with (at_builtin; refine wpList_push _ rfl _ _ _ _ elR rfl hOw (.slice ao1 kk cc1) rfl rfl rfl (by omega) (by omega) ?_; intro g3 c3 w4 hO4 hg4 hgr4)
      go_roundg (3 - (k + 1))
      case measure => omega
      case rel =>
        have hcg := Chg.grownC hgr4
        have hs4 := hcg.size
        refine ⟨k + 1, by omega, rfl, by go_num, g3, c3, _, (fun i => if i = k then kk else L i), (fun i => if i = k then X else T i), rfl, by omega, HD3.out.by hcg (fun j e => by have e : j = g2 := e; omega), hO4, fun i hi => ?_⟩
        by_cases e : i = k
        · subst e
          refine ⟨ao1, cc1, by simp, by simpa using hkk, wr.heap.size, w3.heap.size, ?_, by omega, by omega, by omega, by omega⟩
          simp only [if_true]
          exact HX.out.step hcg (fun j e => Or.inl (by have e : j = g2 := e; omega))
        · obtain ⟨ao2, cc2, r1, r2, lo, hi', r3, r4, r5, r6, r7⟩ := hE.out.row i (by omega)
          refine ⟨ao2, cc2, by simp [e, r1], by simpa [e] using r2, lo, hi', ?_, r4, r5, by omega, by omega⟩
          simp only [if_neg e]
          exact (r3.step HC3.out (fun j e => Or.inl (by have e : j = g := e; omega))).step hcg (fun j e => by have e : j = g2 := e; omega)
    · obtain rfl : k = 3 := by omega
      have r0 := hD.out.res.cell (show 0 < 2 by omega)
      have r1 := hD.out.res.cell (show 1 < 2 by omega)
      have q0 := hD.out.res.frozen 0
      have q1 := hD.out.res.frozen 1
      simp only [if_pos, if_neg (show ¬ (1 : Nat) = 0 by omega)] at r0 r1
      have hres := (hD.out.res.set 0 (.int .i64 P)).set 1 (.slice a m c)
      have c0' := hres.cell (show 0 < 2 by omega)
      have c1' := hres.cell (show 1 < 2 by omega)
      simp at c0' c1'
      obtain ⟨u1, u2, u3⟩ := hD.out.fin (.int .i64 P) (.slice a m c)
      have hcs : Hid (Chg wr ((wr.setCell ⟨w.heap.size, 0, none⟩ (.int .i64 P)).setCell ⟨w.heap.size, 1, none⟩ (.slice a m c)) (· = w.heap.size)) := ((Chg.refl wr (· = w.heap.size)).setCell (a := ⟨w.heap.size, 0, none⟩) rfl (.int .i64 P)).setCell (a := ⟨w.heap.size, 1, none⟩) rfl (.slice a m c)
      have hod := hD.out.ord
      have U1 := Lib.hid u1
      have U2 := Lib.hid u2
      have U3 := Lib.hid u3
      clear hres u1 u2 u3
      go_wp2
      refine bodyPost_ret (v := .tuple #[.agg #[.int .i64 P, .slice a m c], .slice (some ⟨g2, 0, none⟩) 3 c2]) (by simp [results, Try.results114, go_sem, c0', c1']; try rfl) rfl ?_
      refine ⟨P, a, c, m, s, g2, c2, V, L, T, rfl, U1.out, U2.out.lowH (by omega) (Nat.le_of_lt U3.out), hcs.out.own hE.out.own (by show ¬ g2 = w.heap.size; omega), by omega, fun i hi => ?_⟩
      obtain ⟨ao2, cc2, r1, r2, lo, hi', r3, r4, r5, r6, r7⟩ := hE.out.row i hi
      exact ⟨ao2, cc2, lo, r1, r2, r5, (r3.step hcs.out (fun j e => Or.inl (by have e : j = w.heap.size := e; omega))).hi (by have := hcs.out.size; omega)⟩

end Go.Proofs.Ytnnacligfoonbaa

/-
  A drawn doubling and three elements. No condition beside sizes.
-/
set_option linter.unusedVariables false
set_option linter.unusedSimpArgs false
namespace Go.Proofs.Ytnnacligfoonbaa
open Go.RowKit

/-- what a draw of a doubling and three elements hands back -/
structure DrawnD3 (w w' : World) (e : Ending) : Prop where
  out : ∃ (P : Int) (a : Option Addr) (c m : Nat) (s : Nat → Int) (V : Nat → Value) (L : Nat → Nat) (T : Nat → Nat → Int), e = .returned (.tuple #[dbl P (.slice a m c), V 0, V 1, V 2]) ∧ Below w.heap.size w w' ∧ OI w' w.heap.size w'.heap.size a c m s ∧ ∀ i, i < 3 → (∃ (ao : Option Addr) (cc : Nat), V i = .slice ao (L i) cc) ∧ L i ≤ 16 ∧ ∃ lo, w.heap.size < lo ∧ RowI w' (V i) (L i) (T i) lo w'.heap.size

/-- five cells -/
def S5 (bd gt : Nat) (u0 u1 x0 x1 x2 : Value) (W : World) : Prop := W.cell? ⟨bd, 0, none⟩ = some u0 ∧ W.cell? ⟨bd, 1, none⟩ = some u1 ∧ W.cell? ⟨gt, 0, none⟩ = some x0 ∧ W.cell? ⟨gt, 1, none⟩ = some x1 ∧ W.cell? ⟨gt, 2, none⟩ = some x2
theorem S5.put {bd gt r : Nat} {u0 u1 x0 x1 x2 u v : Value} {W : World} (h : S5 bd gt u0 u1 x0 x1 x2 W) (h1 : bd ≠ r) (h2 : gt ≠ r) : S5 bd gt u0 u1 x0 x1 x2 ((W.setCell ⟨r, 0, none⟩ u).setCell ⟨r, 1, none⟩ v) := by
  have hc : Chg W ((W.setCell ⟨r, 0, none⟩ u).setCell ⟨r, 1, none⟩ v) (· = r) := ((Chg.refl W (· = r)).setCell (a := ⟨r, 0, none⟩) rfl u).setCell (a := ⟨r, 1, none⟩) rfl v
  exact ⟨hc.cellC h.1 h1, hc.cellC h.2.1 h1, hc.cellC h.2.2.1 h2, hc.cellC h.2.2.2.1 h2, hc.cellC h.2.2.2.2 h2⟩

set_option maxRecDepth 100000 in
set_option maxHeartbeats 4000000 in
theorem sDrawAssociatorOf_c (cv : Value) (n : Nat) (B : Nat → Int) (w : World) (hB : Byt w cv n B) :
    Calls Try.prog 109 #[cv] w fun e w' => DrawnD3 w w' e := by
  obtain ⟨wa, hwa⟩ : ∃ wa, wa = w.alloc (.cells #[.int .i64 0, .slice none 0 0] 26) := ⟨_, rfl⟩
  have hba : Below w.heap.size w wa := by rw [hwa]; exact (Below.refl _ _).alloc (Nat.le_refl _) _
  have hsa : wa.heap.size = w.heap.size + 1 := by rw [hwa]; simp
  have hra : Own wa 26 w.heap.size 2 2 (fun i => if i = 0 then .int .i64 0 else .slice none 0 0) := by rw [hwa]; exact own2 w _ _ _
  have hp1 := s12Draw_c cv n B wa (hB.below hba)
  rw [hwa] at hp1
  have HP1 := Lib.hid hp1
  have HWA := Lib.hid hwa
  have HRA := Lib.hid hra
  have HBA := Lib.hid hba
  have HSZ := Lib.hid hsa
  obtain ⟨ao, c0, _, _, rfl, qq⟩ := hB.out
  clear hwa hra hba hp1 hB hsa qq
  go_enter Try.func109, Try.ntmps109
  go_wp2_with fail
  refine HP1.out.mono ?_
  rintro e w1 ⟨P, a, c, m, s, gt, ct, V, L, T, rfl, hb1, hL1, hO1, hgt, hR⟩
  rw [← HWA.out] at hb1 hL1 hgt hR
  have hsz := HSZ.out
  have hl1 := hb1.size
  have hbb : Below w1.heap.size w1 (w1.alloc (.cells #[.int .i64 P, .slice a m c] 26)) := (Below.refl _ _).alloc (Nat.le_refl _) _
  have hT := hO1.kept hbb
  have hres0 := (HRA.out.kept hb1).kept hbb
  have hB1 := Lib.hid ((HBA.out.trans (hb1.mono HBA.out.size)).trans (hbb.mono (by have := HBA.out.size; omega)))
  have hL2 := Lib.hid (hL1.kept hbb)
  have hRw := Lib.hid (fun i (hi : i < 3) => hR i hi)
  have hBB := Lib.hid hbb
  have t0 := hT.cell (show 0 < 3 by omega)
  have t1 := hT.cell (show 1 < 3 by omega)
  have t2 := hT.cell (show 2 < 3 by omega)
  have r0 := hres0.cell (show 0 < 2 by omega)
  have r1 := hres0.cell (show 1 < 2 by omega)
  have q0 := hres0.frozen 0
  have q1 := hres0.frozen 1
  simp only [if_pos, if_neg (show ¬ (1 : Nat) = 0 by omega)] at r0 r1
  have HT := Lib.hid hT
  have HRS := Lib.hid hres0
  clear hT hres0 hR hbb hO1 HP1 hb1 hL1
  have i0 : ∀ (i : Nat), i < 3 → ∃ (ao : Option Addr) (cc : Nat), V i = .slice ao (L i) cc := fun i hi => by
    obtain ⟨ao, cc, lo, h1, _⟩ := hRw.out i hi
    exact ⟨ao, cc, h1⟩
  obtain ⟨ao0, cc0, v0⟩ := i0 0 (by omega)
  obtain ⟨ao1, cc1, v1⟩ := i0 1 (by omega)
  obtain ⟨ao2, cc2, v2⟩ := i0 2 (by omega)
  rw [v0] at t0
  rw [v1] at t1
  rw [v2] at t2
  obtain ⟨WB, hWB⟩ : ∃ WB, WB = (w1.alloc (.cells #[.int .i64 P, .slice a m c] 26)).drew := ⟨_, rfl⟩
  have hcs : Chg WB ((WB.setCell ⟨w.heap.size, 0, none⟩ (.int .i64 P)).setCell ⟨w.heap.size, 1, none⟩ (.slice a m c)) (· = w.heap.size) := ((Chg.refl WB (· = w.heap.size)).setCell (a := ⟨w.heap.size, 0, none⟩) rfl (.int .i64 P)).setCell (a := ⟨w.heap.size, 1, none⟩) rfl (.slice a m c)
  have hres := ((HRS.out.kept (drewB _)).set 0 (.int .i64 P)).set 1 (.slice a m c)
  rw [← hWB] at hres
  have hbB : Below w.heap.size w WB := by rw [hWB]; exact hB1.out.trans ((drewB _).mono hB1.out.size)
  have hb1B : Below w1.heap.size w1 WB := by rw [hWB]; exact hBB.out.trans ((drewB _).mono hBB.out.size)
  have hLB : OI WB wa.heap.size w1.heap.size a c m s := by rw [hWB]; exact hL2.out.kept (drewB _)
  have hszB := hcs.size
  have hs1B := hb1B.size
  have HFIN : Hid (DrawnD3 w ((WB.setCell ⟨w.heap.size, 0, none⟩ (.int .i64 P)).setCell ⟨w.heap.size, 1, none⟩ (.slice a m c)) (.returned (.tuple #[dbl P (.slice a m c), V 0, V 1, V 2]))) :=
    ⟨P, a, c, m, s, V, L, T, rfl, hbB.trans (hcs.below hbB.size (fun k e => Nat.le_of_eq e.symm)), (hLB.by hcs fun k e => by have e : k = w.heap.size := e; omega).lowH (by omega) (by omega), fun i hi => by
      obtain ⟨ao, cc, lo, h1, h2, h4, h3⟩ := hRw.out i hi
      exact ⟨⟨ao, cc, h1⟩, h2, lo, by omega, (((h3.step (Chg.of_below hb1B (fun b => b < lo ∨ w1.heap.size ≤ b)) (fun b e => e)).step hcs (fun k e => Or.inl (by have e : k = w.heap.size := e; omega)))).hi (by omega)⟩⟩
  have c0' := (HRS.out.set 0 (.int .i64 P)).cell (show 0 < 2 by omega)
  have c1' := ((HRS.out.set 0 (.int .i64 P)).set 1 (.slice a m c)).cell (show 1 < 2 by omega)
  simp at c0' c1'
  rw [v0, v1, v2] at HFIN
  rw [hWB] at HFIN
  have HC0 := Lib.hid c0'
  have HC1 := Lib.hid c1'
  clear c0' c1' hres hWB hcs hbB hb1B hLB hszB hs1B i0 v0 v1 v2 HRS HT hL2 hB1 hRw hBB HBA HRA HWA HSZ
  have n1 : w1.heap.size ≠ w.heap.size := by omega
  have n2 : gt ≠ w.heap.size := by omega
  have b0 : (w1.alloc (.cells #[.int .i64 P, .slice a m c] 26)).drew.cell? ⟨w1.heap.size, 0, none⟩ = some (.int .i64 P) := by simp
  have b1 : (w1.alloc (.cells #[.int .i64 P, .slice a m c] 26)).drew.cell? ⟨w1.heap.size, 1, none⟩ = some (.slice a m c) := by simp
  have H5 : Hid (S5 w1.heap.size gt (.int .i64 P) (.slice a m c) (.slice ao0 (L 0) cc0) (.slice ao1 (L 1) cc1) (.slice ao2 (L 2) cc2) (w1.alloc (.cells #[.int .i64 P, .slice a m c] 26)).drew) := ⟨b0, b1, by simpa using t0, by simpa using t1, by simpa using t2⟩
  clear b0 b1 t0 t1 t2
  go_wp2
  go_region_held3 (fun W => W.cell? ⟨w1.heap.size, 0, none⟩ = some (.int .i64 P) ∧ W.cell? ⟨w1.heap.size, 1, none⟩ = some (.slice a m c) ∧ W.cell? ⟨gt, 0, none⟩ = some (.slice ao0 (L 0) cc0) ∧ W.cell? ⟨gt, 1, none⟩ = some (.slice ao1 (L 1) cc1) ∧ W.cell? ⟨gt, 2, none⟩ = some (.slice ao2 (L 2) cc2))
    ((first | assumption | exact H5.out | exact S5.put H5.out n1 n2 | exact S5.put (by assumption) n1 n2))
    ((fail))
  all_goals
    go_wp2
    have c0' := HC0.out
    have c1' := HC1.out
    refine bodyPost_ret (v := .tuple #[.agg #[.int .i64 P, .slice a m c], .slice ao0 (L 0) cc0, .slice ao1 (L 1) cc1, .slice ao2 (L 2) cc2]) (by simp [results, Try.results109, go_sem, c0', c1']; try rfl) rfl ?_
    exact HFIN.out

set_option maxRecDepth 100000 in
set_option maxHeartbeats 4000000 in
theorem sDrawMoufangGap_c (cv : Value) (n : Nat) (B : Nat → Int) (w : World) (hB : Byt w cv n B) :
    Calls Try.prog 50 #[cv] w fun e w' => DrawnD3 w w' e := by
  obtain ⟨wa, hwa⟩ : ∃ wa, wa = w.alloc (.cells #[.int .i64 0, .slice none 0 0] 26) := ⟨_, rfl⟩
  have hba : Below w.heap.size w wa := by rw [hwa]; exact (Below.refl _ _).alloc (Nat.le_refl _) _
  have hsa : wa.heap.size = w.heap.size + 1 := by rw [hwa]; simp
  have hra : Own wa 26 w.heap.size 2 2 (fun i => if i = 0 then .int .i64 0 else .slice none 0 0) := by rw [hwa]; exact own2 w _ _ _
  have hp1 := sDrawAssociatorOf_c cv n B wa (hB.below hba)
  rw [hwa] at hp1
  have HP1 := Lib.hid hp1
  have HWA := Lib.hid hwa
  have HRA := Lib.hid hra
  have HBA := Lib.hid hba
  have HSZ := Lib.hid hsa
  obtain ⟨ao, c0, _, _, rfl, qq⟩ := hB.out
  clear hwa hra hba hp1 hB hsa qq
  go_enter Try.func50, Try.ntmps50
  go_wp2_with fail
  refine HP1.out.mono ?_
  rintro e w1 ⟨P, a, c, m, s, V, L, T, rfl, hb1, hL1, hR⟩
  rw [← HWA.out] at hb1 hL1 hR
  have hsz := HSZ.out
  have hl1 := hb1.size
  have hbb : Below w1.heap.size w1 (w1.alloc (.cells #[.int .i64 P, .slice a m c] 26)) := (Below.refl _ _).alloc (Nat.le_refl _) _
  have hres0 := (HRA.out.kept hb1).kept hbb
  have r0 := hres0.cell (show 0 < 2 by omega)
  have r1 := hres0.cell (show 1 < 2 by omega)
  have q0 := hres0.frozen 0
  have q1 := hres0.frozen 1
  simp only [if_pos, if_neg (show ¬ (1 : Nat) = 0 by omega)] at r0 r1
  obtain ⟨WB, hWB⟩ : ∃ WB, WB = w1.alloc (.cells #[.int .i64 P, .slice a m c] 26) := ⟨_, rfl⟩
  have hcs : Chg WB ((WB.setCell ⟨w.heap.size, 0, none⟩ (.int .i64 P)).setCell ⟨w.heap.size, 1, none⟩ (.slice a m c)) (· = w.heap.size) := ((Chg.refl WB (· = w.heap.size)).setCell (a := ⟨w.heap.size, 0, none⟩) rfl (.int .i64 P)).setCell (a := ⟨w.heap.size, 1, none⟩) rfl (.slice a m c)
  have c0' := (hres0.set 0 (.int .i64 P)).cell (show 0 < 2 by omega)
  have c1' := ((hres0.set 0 (.int .i64 P)).set 1 (.slice a m c)).cell (show 1 < 2 by omega)
  simp at c0' c1'
  have hB1 := (HBA.out.trans (hb1.mono HBA.out.size)).trans (hbb.mono (by have := HBA.out.size; omega))
  have hL2 := hL1.kept hbb
  rw [← hWB] at hB1 hbb hL2
  have hszB := hcs.size
  have hs1B := hbb.size
  have HFIN : Hid (DrawnD3 w ((WB.setCell ⟨w.heap.size, 0, none⟩ (.int .i64 P)).setCell ⟨w.heap.size, 1, none⟩ (.slice a m c)) (.returned (.tuple #[dbl P (.slice a m c), V 0, V 1, V 2]))) :=
    ⟨P, a, c, m, s, V, L, T, rfl, hB1.trans (hcs.below hB1.size (fun k e => Nat.le_of_eq e.symm)), (hL2.by hcs fun k e => by have e : k = w.heap.size := e; omega).lowH (by omega) (by omega), fun i hi => by
      obtain ⟨h1, h2, lo, h4, h3⟩ := hR i hi
      exact ⟨h1, h2, lo, by omega, (((h3.step (Chg.of_below hbb (fun b => b < lo ∨ w1.heap.size ≤ b)) (fun b e => e)).step hcs (fun k e => Or.inl (by have e : k = w.heap.size := e; omega)))).hi (by omega)⟩⟩
  obtain ⟨⟨ao0, cc0, v0⟩, _, _⟩ := hR 0 (by omega)
  obtain ⟨⟨ao1, cc1, v1⟩, _, _⟩ := hR 1 (by omega)
  obtain ⟨⟨ao2, cc2, v2⟩, _, _⟩ := hR 2 (by omega)
  rw [v0, v1, v2] at HFIN
  rw [hWB] at HFIN
  have HC0 := Lib.hid c0'
  have HC1 := Lib.hid c1'
  have HV := Lib.hid (show V 0 = _ ∧ V 1 = _ ∧ V 2 = _ from ⟨v0, v1, v2⟩)
  rw [v0, v1, v2]
  clear c0' c1' hres0 hWB hcs hB1 hbb hL2 hszB hs1B v0 v1 v2 HBA HRA HWA HSZ hR hb1 hL1 HP1
  go_wp2
  have c0' := HC0.out
  have c1' := HC1.out
  refine bodyPost_ret (v := .tuple #[.agg #[.int .i64 P, .slice a m c], .slice ao0 (L 0) cc0, .slice ao1 (L 1) cc1, .slice ao2 (L 2) cc2]) (by simp [results, Try.results50, go_sem, c0', c1']; try rfl) rfl ?_
  exact HFIN.out

end Go.Proofs.Ytnnacligfoonbaa
