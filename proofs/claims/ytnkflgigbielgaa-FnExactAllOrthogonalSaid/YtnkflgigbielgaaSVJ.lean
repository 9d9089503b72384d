/-
  VectorsOfNorm, by the program. No condition beside sizes.
-/
import Derived.Test.YtnkflgigbielgaaSV2
import Derived.Test.YtnkflgigbielgaaSP4
import Derived.Test.YtnkflgigbielgaaD42
set_option linter.unusedVariables false
set_option linter.unusedSimpArgs false
namespace Go.Proofs.Ytnkflgigbielgaa
open Go.RowKit

/-- an owned table that has nothing in the blocks of S -/
structure OTabS (w : World) (B : Nat) (S : Nat → Prop) (g cap G : Nat) (L : Nat → Nat) (T : Nat → Nat → Int) : Prop where
  out : ∃ R C : Nat → Nat, Own w 24 g cap G (fun i => .slice (some ⟨R i, 0, none⟩) (L i) (C i)) ∧ (B ≤ g ∧ ¬ S g) ∧
    (∀ i, i < G → Own w 2 (R i) (C i) (L i) (fun j => .int .i64 (T i j)) ∧ B ≤ R i ∧ R i ≠ g ∧ ¬ S (R i)) ∧ ∀ i j, i < G → j < i → R i ≠ R j
theorem OTabS.otab {w : World} {B : Nat} {S : Nat → Prop} {g cap G : Nat} {L : Nat → Nat} {T : Nat → Nat → Int} (h : OTabS w B S g cap G L T) : OTab w B g cap G L T := by
  obtain ⟨R, C, h1, h2, h3, h4⟩ := h.out
  exact ⟨R, C, h1, h2.1, fun i hi => ⟨(h3 i hi).1, (h3 i hi).2.1, (h3 i hi).2.2.1⟩, h4⟩
theorem OTabS.kept {w w' : World} {B : Nat} {S : Nat → Prop} {g cap G : Nat} {L : Nat → Nat} {T : Nat → Nat → Int} (h : OTabS w B S g cap G L T) (hb : Below w.heap.size w w') : OTabS w' B S g cap G L T := by
  obtain ⟨R, C, h1, h2, h3, h4⟩ := h.out
  exact ⟨R, C, h1.kept hb, h2, fun i hi => ⟨(h3 i hi).1.kept hb, (h3 i hi).2⟩, h4⟩
theorem OTabS.chg {w w' : World} {B : Nat} {S : Nat → Prop} {g cap G x : Nat} {L : Nat → Nat} {T : Nat → Nat → Int} (h : OTabS w B S g cap G L T) (hx : S x) (hc : Chg w w' (· = x)) : OTabS w' B S g cap G L T := by
  obtain ⟨R, C, h1, h2, h3, h4⟩ := h.out
  exact ⟨R, C, hc.own h1 (fun e => h2.2 (by have e : g = x := e; rw [e]; exact hx)), h2, fun i hi => ⟨hc.own (h3 i hi).1 (fun e => (h3 i hi).2.2.2 (by have e : R i = x := e; rw [e]; exact hx)), (h3 i hi).2⟩, h4⟩
theorem OTabS.congr {w : World} {B : Nat} {S : Nat → Prop} {g cap G : Nat} {L L' : Nat → Nat} {T T' : Nat → Nat → Int} (h : OTabS w B S g cap G L T) (hL : ∀ i, i < G → L i = L' i) (hT : ∀ i j, i < G → j < L i → T i j = T' i j) : OTabS w B S g cap G L' T' := by
  obtain ⟨R, C, h1, h2, h3, h4⟩ := h.out
  exact ⟨R, C, h1.congr fun i hi => by rw [hL i hi], h2, fun i hi => ⟨by rw [← hL i hi]; exact (h3 i hi).1.congr fun j hj => by rw [hT i j hi hj], (h3 i hi).2⟩, h4⟩
theorem OTabS.pushAt {w : World} {B : Nat} {S : Nat → Prop} {g cap G : Nat} {L : Nat → Nat} {T : Nat → Nat → Int} (h : OTabS w B S g cap G L T) (hB : B ≤ w.heap.size) (hx : ∀ x, S x → x < w.heap.size) : ∃ V, Own w 24 g cap G V ∧
    ∀ (wr w' : World) (g' cap' r c n : Nat) (X : Nat → Int), Below w.heap.size w wr → Own wr 2 r c n (fun j => .int .i64 (X j)) → w.heap.size ≤ r → Own w' 24 g' cap' (G + 1) (fun j => if j = G then .slice (some ⟨r, 0, none⟩) n c else V j) →
      (g' = g ∨ wr.heap.size ≤ g') → wr.grownBy w' (some g) → OTabS w' B S g' cap' (G + 1) (fun i => if i = G then n else L i) (fun i => if i = G then X else T i) := by
  obtain ⟨R, C, h1, h2, h3, h4⟩ := h.out
  refine ⟨_, h1, fun wr w' g' cap' r c n X hb hr hrB hO hg hgr => ?_⟩
  have hs := hb.size
  have hgl := h1.lt
  refine ⟨fun i => if i = G then r else R i, fun i => if i = G then c else C i, hO.congr fun i hi => ?_, ⟨by omega, fun hS => ?_⟩, fun i hi => ?_, fun i j hi hj => ?_⟩
  · by_cases e : i = G
    · subst e; simp
    · simp [e]
  · have := hx _ hS
    rcases hg with h | h
    · rw [h] at hS; exact h2.2 hS
    · omega
  · by_cases e : i = G
    · subst e; simp only [if_true]
      have := hr.lt
      exact ⟨hr.grown hgr (by intro e; injection e with e; omega), by omega, by omega, fun hS => by have := hx _ hS; omega⟩
    · have hi' : i < G := by omega
      simp only [if_neg e]
      have h5 := (h3 i hi').1.lt
      refine ⟨((h3 i hi').1.kept hb).grown hgr (by intro e; injection e with e; exact (h3 i hi').2.2.1 e.symm), (h3 i hi').2.1, ?_, (h3 i hi').2.2.2⟩
      rcases hg with h | h
      · rw [h]; exact (h3 i hi').2.2.1
      · omega
  · by_cases e : i = G
    · subst e
      have := (h3 j hj).1.lt
      simp only [if_true, if_neg (show j ≠ i by omega)]; omega
    · simp only [if_neg e, if_neg (show j ≠ G by omega)]; exact h4 i j (by omega) hj

/-- the blocks of the boxes and of the vector -/
def boxS (b1 b2 b3 bx gv : Nat) (x : Nat) : Prop := x = b1 ∨ x = b2 ∨ x = b3 ∨ x = bx ∨ x = gv
/-- the boxes, and the list that the closure has made of the first t vectors -/
structure VS (w0 : World) (p : Int) (s : Nat → Int) (ao : Option Addr) (n c : Nat) (k : Int) (b1 b2 b3 bx gv t : Nat) (wr : World) : Prop where
  below : Below w0.heap.size w0 wr
  c0 : wr.cell? ⟨b1, 0, none⟩ = some (.int .i64 p)
  c1 : wr.cell? ⟨b1, 1, none⟩ = some (.slice ao n c)
  c2 : wr.cell? ⟨b2, 0, none⟩ = some (.int .i64 k)
  cx : wr.cell? ⟨bx, 0, none⟩ = some (.int .i64 p)
  f3 : wr.frozen? ⟨b3, 0, none⟩ = false
  tab : ∃ g' c' G, wr.cell? ⟨b3, 0, none⟩ = some (.slice (some ⟨g', 0, none⟩) G c') ∧ G = cnt (okV p s n k) t ∧ OTabS wr w0.heap.size (boxS b1 b2 b3 bx gv) g' c' G (fun _ => n) (fun i => vecT p n (sel (okV p s n k) t i))
/-- where the boxes lie -/
structure VB (w0 : World) (b1 b2 b3 bx gv : Nat) : Prop where
  l1 : w0.heap.size ≤ b1
  l2 : b1 < b2
  l3 : b2 < b3
  l4 : b3 < bx
  l5 : bx < gv
theorem frz_of_block {w w' : World} {a : Addr} (h : w'.heap[a.block]? = w.heap[a.block]?) : w'.frozen? a = w.frozen? a := World.frozen?_of_block h
theorem VS.chgV {w0 : World} {p : Int} {s : Nat → Int} {ao : Option Addr} {n c : Nat} {k : Int} {b1 b2 b3 bx gv t : Nat} {W W' : World} (hb : VB w0 b1 b2 b3 bx gv) (h : VS w0 p s ao n c k b1 b2 b3 bx gv t W) (hc : Chg W W' (· = gv)) : VS w0 p s ao n c k b1 b2 b3 bx gv t W' := by
  have l1 := hb.l1; have l2 := hb.l2; have l3 := hb.l3; have l4 := hb.l4; have l5 := hb.l5
  obtain ⟨g', c', G, h1, h2, h3⟩ := h.tab
  refine ⟨h.below.trans (hc.below h.below.size (fun x hx => by have hx : x = gv := hx; omega)), hc.cellN (by omega) h.c0, hc.cellN (by omega) h.c1, hc.cellN (by omega) h.c2, hc.cellN (by omega) h.cx, ?_, g', c', G, hc.cellN (by omega) h1, h2, h3.chg (Or.inr (Or.inr (Or.inr (Or.inr rfl)))) hc⟩
  rw [frz_of_block (w := W) (hc.block b3 (lt_of_cell h1) (by intro e; have e : b3 = gv := e; omega))]; exact h.f3

theorem box4Keep {w W W' : World} {b1 b2 b3 : Nat} {v1 v2 v3 v4 : Value} (hb : Below W.heap.size W W')
    (h : W.cell? ⟨b1, 0, none⟩ = some v1 ∧ W.cell? ⟨b1, 1, none⟩ = some v2 ∧ W.cell? ⟨b2, 0, none⟩ = some v3 ∧ W.cell? ⟨b3, 0, none⟩ = some v4 ∧ Below w.heap.size w W) :
    W'.cell? ⟨b1, 0, none⟩ = some v1 ∧ W'.cell? ⟨b1, 1, none⟩ = some v2 ∧ W'.cell? ⟨b2, 0, none⟩ = some v3 ∧ W'.cell? ⟨b3, 0, none⟩ = some v4 ∧ Below w.heap.size w W' :=
  ⟨cellKp hb h.1, cellKp hb h.2.1, cellKp hb h.2.2.1, cellKp hb h.2.2.2.1, h.2.2.2.2.trans (hb.mono h.2.2.2.2.size)⟩
theorem box4Below {w W : World} {b1 b2 b3 : Nat} {v1 v2 v3 v4 : Value}
    (h : W.cell? ⟨b1, 0, none⟩ = some v1 ∧ W.cell? ⟨b1, 1, none⟩ = some v2 ∧ W.cell? ⟨b2, 0, none⟩ = some v3 ∧ W.cell? ⟨b3, 0, none⟩ = some v4 ∧ Below w.heap.size w W) : Below w.heap.size w W := h.2.2.2.2

set_option maxRecDepth 100000 in
set_option maxHeartbeats 2000000 in
theorem iVonCl_c (w0 : World) (p : Int) (s : Nat → Int) (ao : Option Addr) (n c : Nat) (k : Int) (b1 b2 b3 bx gv t : Nat) (w : World) (hvb : VB w0 b1 b2 b3 bx gv) (hd : SV w0 (.slice ao n c) p n s) (h : VS w0 p s ao n c k b1 b2 b3 bx gv t w) (hO : Own w 2 gv n n (fun i => .int .i64 (vecT p n t i))) (ht : t ≤ 5000) :
    Calls Try.prog 80 #[.slice (some ⟨gv, 0, none⟩) n n, .pointer (some ⟨b1, 0, none⟩), .pointer (some ⟨b2, 0, none⟩), .pointer (some ⟨b3, 0, none⟩)] w fun e w' => e = .returned (.bool false) ∧ VS w0 p s ao n c k b1 b2 b3 bx gv (t + 1) w' ∧ Own w' 2 gv n n (fun i => .int .i64 (vecT p n t i)) := by
  have hpb := hd.ok.bd
  have hn6 := hd.ok.n6
  have l1 := hvb.l1
  have l2 := hvb.l2
  have l3 := hvb.l3
  have l4 := hvb.l4
  have l5 := hvb.l5
  have HVB := Lib.hid hvb
  obtain ⟨a, ha⟩ : ∃ a, pairF p s n (vecT p n t) (vecT p n t) = a := ⟨_, rfl⟩
  have HP : Hid (∀ W, Below w.heap.size w W → Calls Try.prog 73 #[dbl p (.slice ao n c), .slice (some ⟨gv, 0, none⟩) n n] W fun e w' => Makes W w' e (.int .i64 a)) := fun W hb => ha ▸ iSNorm_c p _ _ n s _ W (hd.below (h.below.trans (hb.mono h.below.size))) ⟨(hO.kept hb).ints, vecT_in (by omega) n t n⟩
  have hoke : Hid (okV p s n k t = (a == k)) := by unfold okV; rw [ha]; exact rfl
  obtain ⟨g', c', G, q1, q2, q3⟩ := h.tab
  have c0 := h.c0
  have c1 := h.c1
  have c2 := h.c2
  have f3 := h.f3
  have CX := Lib.hid h.cx
  have hbel := Lib.hid h.below
  have hgl := hO.lt
  have HO := Lib.hid hO
  have HT := Lib.hid q3
  have HG := Lib.hid q2
  have hGt : G ≤ t := by rw [q2]; exact cnt_le _ _
  clear ha hd h hO hvb q2 q3
  cases hq : (a == k)
  · go_enter Try.func80, Try.ntmps80
    go_wp2
    go_region_held3 (fun W => W.cell? ⟨b1, 0, none⟩ = some (.int .i64 p) ∧ W.cell? ⟨b1, 1, none⟩ = some (.slice ao n c) ∧ W.cell? ⟨b2, 0, none⟩ = some (.int .i64 k) ∧ W.cell? ⟨b3, 0, none⟩ = some (.slice (some ⟨g', 0, none⟩) G c') ∧ Below w.heap.size w W)
      ((first | assumption | exact box4Keep (drewB _) ⟨c0, c1, c2, q1, Below.refl _ _⟩ | exact box4Keep (by assumption) (by assumption)))
      ((first | (go_at_call 73; refine Calls.makes' (HP.out _ (box4Below (by assumption))) _ fun w1 hb1 => ?_)))
    go_wp2
    go_ret
    rename_i hHeld
    have hb := hHeld.2.2.2.2
    refine ⟨rfl, ⟨hbel.out.trans (hb.mono hbel.out.size), hHeld.1, hHeld.2.1, hHeld.2.2.1, cellKp hb CX.out, ?_, g', c', G, hHeld.2.2.2.1, ?_, ?_⟩, HO.out.kept hb⟩
    · rw [frz_of_block (w := w) (hb.block b3 (by omega))]; exact f3
    · have hn : okV p s n k t = false := hoke.out.trans hq
      rw [HG.out]; simp [cnt, hn]
    · exact (HT.out.kept hb).congr (fun i hi => rfl) (fun i j hi hj => by rw [sel_old (by have := HG.out; omega)])
  · go_enter Try.func80, Try.ntmps80
    go_wp2
    go_region_held3 (fun W => W.cell? ⟨b1, 0, none⟩ = some (.int .i64 p) ∧ W.cell? ⟨b1, 1, none⟩ = some (.slice ao n c) ∧ W.cell? ⟨b2, 0, none⟩ = some (.int .i64 k) ∧ W.cell? ⟨b3, 0, none⟩ = some (.slice (some ⟨g', 0, none⟩) G c') ∧ Below w.heap.size w W)
      ((first | assumption | exact box4Keep (drewB _) ⟨c0, c1, c2, q1, Below.refl _ _⟩ | exact box4Keep (by assumption) (by assumption)))
      ((first | (go_at_call 73; refine Calls.makes' (HP.out _ (box4Below (by assumption))) _ fun w1 hb1 => ?_)))
    rename_i hHeld
    have hb := hHeld.2.2.2.2
    have hs1 := hb.size
    obtain ⟨V, hV, hpush⟩ := HT.out.pushAt hbel.out.size (fun x hx => by rcases hx with h | h | h | h | h <;> omega)
    have HPU := Lib.hid hpush
    have HVV := Lib.hid ((hV.kept hb).drew)
    have hne : g' ≠ b1 ∧ g' ≠ b2 ∧ g' ≠ b3 ∧ g' ≠ gv ∧ g' ≠ bx ∧ w0.heap.size ≤ g' ∧ g' < w.heap.size := by
      have hgl' := hV.lt
      obtain ⟨R, C, _, h2, _⟩ := HT.out.out
      exact ⟨fun e => h2.2 (Or.inl e), fun e => h2.2 (Or.inr (Or.inl e)), fun e => h2.2 (Or.inr (Or.inr (Or.inl e))), fun e => h2.2 (Or.inr (Or.inr (Or.inr (Or.inr e)))), fun e => h2.2 (Or.inr (Or.inr (Or.inr (Or.inl e)))), h2.1, hgl'⟩
    obtain ⟨m1, m2, m3, m4, m7, m5, m6⟩ := hne
    have y1 : w1.drew.cell? ⟨b3, 0, none⟩ = some (.slice (some ⟨g', 0, none⟩) G c') := hHeld.2.2.2.1
    have HHELD := Lib.hid hHeld
    have HOd := Lib.hid ((HO.out.kept hb).drew)
    have hsz1 : w1.drew.heap.size = w1.heap.size := rfl
    clear hHeld hpush hV hb1 c0 c1 c2 q1
    go_wp2
    go_region_law (first
      | (go_simp; go_at_call 81; refine (iClone_c gv n n (vecT p n t) _ HOd.out (by omega)).mono ?_; rintro e w6 ⟨g6, c6, rfl, hg6, hb6, hO6⟩; have y6 : w6.cell? ⟨b3, 0, none⟩ = some (.slice (some ⟨g', 0, none⟩) G c') := cellKp hb6 y1; have y6' : (w6.alloc (.cells #[.slice (some ⟨g6, 0, none⟩) n c6] 24)).cell? ⟨b3, 0, none⟩ = some (.slice (some ⟨g', 0, none⟩) G c') := cellKp ((Below.refl _ _).alloc (Nat.le_refl _) _) y6; have hV6 := HVV.out.kept hb6; have hs6 := hb6.size)
      | (refine step_push rfl _ _ _ _ elR rfl hV6 (.slice (some ⟨g6, 0, none⟩) n c6) rfl rfl rfl (by omega) (by omega) ?_; intro g3 c3 w3 hO3 hg3 hgr3; have y7 : w3.cell? ⟨b3, 0, none⟩ = some (.slice (some ⟨g', 0, none⟩) G c') := (World.cell?_of_block (hgr3.block b3 (by omega) (by intro e; injection e with e; exact m3 e.symm))).trans y6; have y8 : w3.frozen? ⟨b3, 0, none⟩ = false := by rw [frz_of_block (w := w6) (hgr3.block b3 (by omega) (by intro e; injection e with e; exact m3 e.symm)), frz_of_block (w := w1) (hb6.block b3 (by omega)), frz_of_block (w := w) (HHELD.out.2.2.2.2.block b3 (by omega))]; exact f3))
    all_goals go_wp2
    all_goals go_ret
    all_goals
      have hb' : Below w.heap.size w w6 := hb.drew.trans (hb6.mono hs1)
      have hb0 : Below w0.heap.size w0 w6 := hbel.out.trans (hb'.mono hbel.out.size)
      have hbs := hbel.out.size
      obtain ⟨u, hu⟩ : ∃ u, Value.slice (some ⟨g3, 0, none⟩) (G + 1) c3 = u := ⟨_, rfl⟩
      have hcs : Chg w3 (w3.setCell ⟨b3, 0, none⟩ u) (· = b3) := (Chg.refl w3 (· = b3)).setCell (a := ⟨b3, 0, none⟩) rfl u
      have cw : ∀ b, b ≠ g' → b ≠ b3 → b < w6.heap.size → (w3.setCell ⟨b3, 0, none⟩ u).heap[b]? = w6.heap[b]? := fun b h1 h2 h3 => (hcs.block b (by have := hgr3.size; omega) h2).trans (hgr3.block b h3 (by intro e; injection e with e; exact h1 e))
      obtain ⟨q0, q1, q2, q3, q4⟩ := HHELD.out
      have hn : okV p s n k t = true := hoke.out.trans hq
      have hG := HG.out
      have hT9 := ((HPU.out _ _ _ _ _ _ _ _ hb' hO6 (by omega) hO3 hg3 hgr3).chg (Or.inr (Or.inr (Or.inl rfl))) hcs).congr (L' := fun _ => n) (T' := fun i => vecT p n (sel (okV p s n k) (t + 1) i)) (fun i hi => by by_cases e : i = G <;> simp [e]) (fun i j hi hj => by
        by_cases e : i = G
        · subst e; simp only [if_true]; rw [hG, sel_new hn]
        · simp only [if_neg e]; rw [sel_old (by omega)])
      rw [hu]
      refine ⟨rfl, ⟨(hb0.grown hgr3 (by omega) (fun k e => by injection e with e; omega)).setCell (by show _ ≤ b3; omega) _, (World.cell?_of_block (w := w6) (cw b1 (Ne.symm m1) (by omega) (by omega))).trans (cellKp hb6 q0), (World.cell?_of_block (w := w6) (cw b1 (Ne.symm m1) (by omega) (by omega))).trans (cellKp hb6 q1), (World.cell?_of_block (w := w6) (cw b2 (Ne.symm m2) (by omega) (by omega))).trans (cellKp hb6 q2), (World.cell?_of_block (w := w6) (cw bx (Ne.symm m7) (by omega) (by omega))).trans (cellKp hb6 (cellKp hb.drew CX.out)), ?_, g3, c3, G + 1, ?_, ?_, hT9⟩, ?_⟩
      · rw [World.frozen?_setCell]; exact y8
      · rw [hu]; exact World.cell?_setCell_same _ _ _ y7
      · simp [cnt, hn, hG]
      · exact ((HOd.out.kept hb6).grown hgr3 (by intro e; injection e with e; exact m4 e)).setOther (by show gv ≠ b3; omega) _

end Go.Proofs.Ytnkflgigbielgaa

/-
  VectorsOfNorm, by the program: all vectors in their order. No condition beside sizes.
-/
set_option linter.unusedVariables false
set_option linter.unusedSimpArgs false
namespace Go.Proofs.Ytnkflgigbielgaa
open Go.RowKit

set_option maxRecDepth 100000 in
set_option maxHeartbeats 4000000 in
theorem iVectors_c (w0 : World) (p : Int) (s : Nat → Int) (ao : Option Addr) (n c : Nat) (k : Int) (b1 b2 b3 g0 tT : Nat) (w : World) (hd : SV w0 (.slice ao n c) p n s) (hT : p ^ n = (tT : Int)) (hT1 : tT ≤ 5000)
    (l1 : w0.heap.size ≤ b1) (l2 : b1 < b2) (l3 : b2 < b3) (l4 : b3 < w.heap.size) (l5 : w0.heap.size ≤ g0) (l6 : g0 ≠ b1 ∧ g0 ≠ b2 ∧ g0 ≠ b3)
    (hb : Below w0.heap.size w0 w) (c0 : w.cell? ⟨b1, 0, none⟩ = some (.int .i64 p)) (c1 : w.cell? ⟨b1, 1, none⟩ = some (.slice ao n c)) (c2 : w.cell? ⟨b2, 0, none⟩ = some (.int .i64 k)) (f3 : w.frozen? ⟨b3, 0, none⟩ = false)
    (c3 : w.cell? ⟨b3, 0, none⟩ = some (.slice (some ⟨g0, 0, none⟩) 0 0)) (hO : Own w 24 g0 0 0 (fun _ => undef)) :
    Calls Try.prog 79 #[dbl p (.slice ao n c), .func (.func 80) #[] #[.pointer (some ⟨b1, 0, none⟩), .pointer (some ⟨b2, 0, none⟩), .pointer (some ⟨b3, 0, none⟩)]] w fun e w' => e = .returned (.bool false) ∧ ∃ gv, VS w0 p s ao n c k b1 b2 b3 w.heap.size gv tT w' := by
  have hpb := hd.ok.bd
  have hn6 := hd.ok.n6
  have hp0 : 1 ≤ tT := by
    have := pow_sm hpb.1 hpb.2 hn6
    omega
  obtain ⟨e0, e1, e2, e3⟩ := box0 w p ao n c 26
  have BX := Lib.hid (box0 w p ao n c 26)
  have hgl := hO.lt
  have HO := Lib.hid hO
  have HB := Lib.hid hb
  have HD := Lib.hid hd
  have HT := Lib.hid hT
  have C0 := Lib.hid c0
  have C1 := Lib.hid c1
  have C2 := Lib.hid c2
  have C3 := Lib.hid c3
  have F3 := Lib.hid f3
  have hmf : ∀ (fn : Fn) (first cap : Array Value) (w : World), (Instr.makeFunc fn first cap).run Try.prog w = .ok (.func fn first cap) w := fun _ _ _ _ => rfl
  clear hO hb hd hT c0 c1 c2 c3 f3
  go_enter Try.func79, Try.ntmps79
  go_wp2_with fail
  refine Calls.makes' (iDim_c _ _ _ _ _ (by omega)) _ fun w1 hb1 => ?_
  have bx1 := boxKeep hb1 ⟨e0, e1, e2, e3⟩
  have BX1 := Lib.hid bx1
  have hs1 := hb1.size
  have hsb : (w.alloc (.cells #[.int .i64 p, .slice ao n c] 26)).heap.size = w.heap.size + 1 := alloc_size _ _
  clear e0 e1 e2 e3
  go_wp2_with (at_make; refine wpList_mkA _ rfl _ _ _ _ elI rfl rfl .i64 .i64 n rfl rfl (by omega) (by omega) ?_; intro W3 hB3 hS3 hO3; have HS3 := Lib.hid hS3; clear hS3)
  rw [hsb] at hs1
  obtain ⟨bx, hbx⟩ : ∃ bx, w.heap.size = bx := ⟨_, rfl⟩
  obtain ⟨gv, hgv⟩ : ∃ gv, w1.heap.size = gv := ⟨_, rfl⟩
  have hvb : VB w0 b1 b2 b3 bx gv := ⟨l1, l2, l3, by omega, by omega⟩
  have hbw3 : Below w.heap.size w W3 := bx1.2.2.2.trans (hB3.mono bx1.2.2.2.size)
  have hv0 : VS w0 p s ao n c k b1 b2 b3 bx gv 0 W3 := by
    refine ⟨HB.out.trans (hbw3.mono HB.out.size), cellKp hbw3 C0.out, cellKp hbw3 C1.out, cellKp hbw3 C2.out, ?_, ?_, g0, 0, 0, cellKp hbw3 C3.out, rfl, ⟨fun _ => 0, fun _ => 0, ?_, ⟨l5, fun h => ?_⟩, fun i hi => absurd hi (Nat.not_lt_zero _), fun i j hi => absurd hi (Nat.not_lt_zero _)⟩⟩
    · rw [← hbx]; exact cellKp hB3 bx1.1
    · rw [frz_of_block (w := w) (hbw3.block b3 (by omega))]; exact F3.out
    · exact (HO.out.kept hbw3).congr fun i hi => absurd hi (Nat.not_lt_zero _)
    · rcases h with h | h | h | h | h
      · exact l6.1 h
      · exact l6.2.1 h
      · exact l6.2.2 h
      · omega
      · omega
  have HV0 := Lib.hid hv0
  have HVB := Lib.hid hvb
  rw [hgv] at hO3
  have HO3 : Hid (Own W3 2 gv n n (fun i => .int .i64 (vecT p n 0 i))) := hO3.congr fun i hi => by rw [vecT_zero]
  have hbg : bx ≠ gv := by omega
  rw [hbx, hgv]
  clear hv0 hvb hbw3 hO3 hB3 HS3 hb1 bx1 BX BX1 HO HB C0 C1 C2 C3 F3 hsb
  go_loopg [6] tT (fun g (i : Value) wr => ∃ t : Nat, t < tT ∧ g = tT - t ∧ Hid (VS w0 p s ao n c k b1 b2 b3 bx gv t wr) ∧ Hid (Own wr 2 gv n n (fun i => .int .i64 (vecT p n t i))))
  case atStart => exact ⟨0, by omega, rfl, HV0.out, HO3.out⟩
  case round =>
    obtain ⟨t, ht, rfl, hV, hO⟩ := hrel
    obtain ⟨wo, rfl⟩ : ∃ wo, wo = wr := ⟨_, rfl⟩
    clear HV0 HO3
    go_wp2_with (go_at_call 80; refine (iVonCl_c w0 p s ao n c k b1 b2 b3 bx gv t _ HVB.out HD.out hV.out hO.out (by omega)).mono ?_; rintro e w5 ⟨rfl, hV5, hO5⟩; have HV5 := Lib.hid hV5; have HO5 := Lib.hid hO5; clear hV5 hO5)
    go_loopg [6] n (fun gg i wq => ∃ r : Nat, r ≤ n ∧ r = gg ∧ i = .int .i64 ((r : Int) - 1) ∧ Chg w5 wq (· = gv) ∧ Own wq 2 gv n n (fun i => .int .i64 (clr r (vecT p n t) i)) ∧ Hid (maxFrom p n r (vecT p n t)))
    case atStart => exact ⟨n, Nat.le_refl _, rfl, rfl, Chg.refl _ _, HO5.out.congr fun i hi => by unfold clr; rw [if_neg (by omega)], fun i h1 h2 => absurd h2 (by omega)⟩
    case round =>
      obtain ⟨r, hr, rfl, rfl, hc, hOq, hmx⟩ := hrel
      have yb := hc.cellN hbg HV5.out.cx
      by_cases hlt : 0 < r
      · obtain ⟨i, rfl⟩ : ∃ i, r = i + 1 := ⟨r - 1, by omega⟩
        rw [show (((i + 1 : Nat) : Int) - 1) = (i : Int) by omega]
        have hxi := vecT_in (p := p) (by omega) n t n i (by omega)
        have y1 : wr.cell? ⟨gv, i, none⟩ = some (.int .i64 (vecT p n t i)) := by
          have h := hOq.cell (show i < n by omega)
          rw [h]; unfold clr; rw [if_neg (by omega)]
        obtain ⟨xi, hxe⟩ : ∃ xi, vecT p n t i = xi := ⟨_, rfl⟩
        rw [hxe] at y1 hxi
        have HXE := Lib.hid hxe
        have y2 := hOq.frozen i
        have i1 : (0 : Int) ≤ (i : Int) := by omega
        have i2 : (i : Int) < (n : Int) := by omega
        have hw1 : IntKind.i64.wrap (p - 1) = p - 1 := wrap_in _ (by omega)
        clear hxe
        have HC := Lib.hid hc
        have HOq := Lib.hid hOq
        have HY2 := Lib.hid y2
        by_cases hmax : xi = p - 1
        · have HMX := Lib.hid (HXE.out.trans hmax)
          subst hmax
          have HY1 := Lib.hid y1
          clear hOq hc HXE
          go_wp2
          go_quiet (fail)
          have z1 : (wr.drewN nq).cell? ⟨gv, i, none⟩ = some (.int .i64 (p - 1)) := HY1.out
          have z2 : (wr.drewN nq).frozen? ⟨gv, i, none⟩ = false := HY2.out
          have HC9 : Hid (Chg w5 (wr.drewN nq) (· = gv)) := ⟨HC.out.os, HC.out.tape, HC.out.output, HC.out.size, HC.out.block⟩
          have HO9 := Lib.hid ((HOq.out.drewN nq).set i (.int .i64 0))
          clear yb y1 y2
          go_wp2
          go_roundg i
          case measure => omega
          case rel => exact ⟨i, by omega, rfl, by go_num, HC9.out.setCell (a := ⟨gv, i, none⟩) rfl _, HO9.out.congr fun j hj => by
              unfold clr
              by_cases e : j = i
              · subst e; simp
              · rw [if_neg e]
                by_cases e2 : i + 1 ≤ j
                · rw [if_pos e2, if_pos (by omega)]
                · rw [if_neg e2, if_neg (by omega)], fun j h1 h2 => by
              by_cases e : j = i
              · subst e; exact HMX.out
              · exact hmx.out j (by omega) h2⟩
        · have HMX : Hid (vecT p n t i ≠ p - 1) := fun e => hmax (HXE.out.symm.trans e)
          have hne : decide (xi = p - 1) = false := decide_eq_false hmax
          have HY1 := Lib.hid y1
          have hwx : IntKind.i64.wrap (xi + 1) = xi + 1 := wrap_in _ (by omega)
          clear hOq hc
          go_wp2
          go_quiet (fail)
          have z1 : (wr.drewN nq).cell? ⟨gv, i, none⟩ = some (.int .i64 xi) := HY1.out
          have z2 : (wr.drewN nq).frozen? ⟨gv, i, none⟩ = false := HY2.out
          have HC9 : Hid (Chg w5 (wr.drewN nq) (· = gv)) := ⟨HC.out.os, HC.out.tape, HC.out.output, HC.out.size, HC.out.block⟩
          have HO9 := Lib.hid ((HOq.out.drewN nq).set i (.int .i64 (xi + 1)))
          clear yb y1 y2
          go_wp2
          have hnx := next_vecT (show 1 ≤ p by omega) (t := t) (b := true) (X' := inc i (vecT p n t)) (by rw [HT.out]; omega) (Or.inl ⟨rfl, inc_in (by omega) (vecT_in (by omega) n t n) HMX.out, val_inc (by omega) hmx.out⟩)
          rcases hnx with ⟨_, h1, h2⟩ | ⟨h1, _⟩
          · rw [HT.out] at h1
            go_roundg (tT - (t + 1))
            case measure => omega
            case rel => exact ⟨t + 1, by omega, rfl, HV5.out.chgV HVB.out (HC9.out.setCell (a := ⟨gv, i, none⟩) rfl _), HO9.out.congr fun j hj => by
                rw [← h2 j hj]
                unfold clr inc
                by_cases e : j = i
                · subst e; rw [if_pos rfl, if_pos rfl, HXE.out]
                · rw [if_neg e, if_neg e]
                  by_cases e2 : i + 1 ≤ j
                  · rw [if_pos e2, if_pos (by omega)]
                  · rw [if_neg e2, if_neg (by omega)]⟩
          · exact absurd h1 (by decide)
      · obtain rfl : r = 0 := by omega
        rw [show (((0 : Nat) : Int) - 1) = -1 by omega]
        have HC := Lib.hid hc
        clear hOq hc
        go_wp2
        go_quiet (fail)
        go_wp2
        go_ret
        have HC9 : Hid (Chg w5 (wr.drewN nq) (· = gv)) := ⟨HC.out.os, HC.out.tape, HC.out.output, HC.out.size, HC.out.block⟩
        have hnx := next_vecT (show 1 ≤ p by omega) (t := t) (b := false) (X' := fun _ => 0) (by rw [HT.out]; omega) (Or.inr ⟨rfl, val_top hmx.out⟩)
        rcases hnx with ⟨h1, _⟩ | ⟨_, h1⟩
        · exact absurd h1 (by decide)
        · rw [HT.out] at h1
          obtain rfl : t + 1 = tT := by omega
          refine ⟨rfl, gv, ?_⟩
          rw [hbx]
          exact HV5.out.chgV HVB.out HC9.out

end Go.Proofs.Ytnkflgigbielgaa

/-
  VectorsOfNorm, by the program. No condition beside sizes.
-/
set_option linter.unusedVariables false
set_option linter.unusedSimpArgs false
namespace Go.Proofs.Ytnkflgigbielgaa
open Go.RowKit

/-- the two boxes of VectorsOfNorm -/
def BoxV (w : World) (p : Int) (ao : Option Addr) (n c : Nat) (k : Int) (W : World) : Prop :=
  W.cell? ⟨w.heap.size, 0, none⟩ = some (.int .i64 p) ∧ W.cell? ⟨w.heap.size, 1, none⟩ = some (.slice ao n c) ∧ W.cell? ⟨w.heap.size + 1, 0, none⟩ = some (.int .i64 k) ∧ w.heap.size + 1 < W.heap.size ∧ Below w.heap.size w W
theorem boxV0 (w : World) (p : Int) (ao : Option Addr) (n c : Nat) (k : Int) : BoxV w p ao n c k ((w.alloc (.cells #[.int .i64 p, .slice ao n c] 26)).alloc (.cells #[.int .i64 k] 2)) := by
  obtain ⟨e0, e1, e2, e3⟩ := box0 w p ao n c 26
  have ba : Below (w.alloc (.cells #[.int .i64 p, .slice ao n c] 26)).heap.size (w.alloc (.cells #[.int .i64 p, .slice ao n c] 26)) ((w.alloc (.cells #[.int .i64 p, .slice ao n c] 26)).alloc (.cells #[.int .i64 k] 2)) := (Below.refl _ _).alloc (Nat.le_refl _) _
  have hsz : (w.alloc (.cells #[.int .i64 p, .slice ao n c] 26)).heap.size = w.heap.size + 1 := alloc_size _ _
  have hs2 : ((w.alloc (.cells #[.int .i64 p, .slice ao n c] 26)).alloc (.cells #[.int .i64 k] 2)).heap.size = (w.alloc (.cells #[.int .i64 p, .slice ao n c] 26)).heap.size + 1 := alloc_size _ _
  have hO := Own.new (w.alloc (.cells #[.int .i64 p, .slice ao n c] 26)) 2 #[.int .i64 k] (fun _ => .int .i64 k) (by simp) (fun i hi => by
    obtain rfl : i = 0 := by simp at hi; omega
    rfl)
  have h := hO.cell (i := 0) (by simp)
  rw [hsz] at h
  exact ⟨cellKp ba e0, cellKp ba e1, h, by omega, e3.trans (ba.mono e3.size)⟩
theorem boxVKeep {w W W' : World} {p : Int} {ao : Option Addr} {n c : Nat} {k : Int} (hb : Below W.heap.size W W') (h : BoxV w p ao n c k W) : BoxV w p ao n c k W' :=
  ⟨cellKp hb h.1, cellKp hb h.2.1, cellKp hb h.2.2.1, by have := hb.size; have := h.2.2.2.1; omega, h.2.2.2.2.trans (hb.mono h.2.2.2.2.size)⟩
theorem boxVAlloc {w W : World} {p : Int} {ao : Option Addr} {n c : Nat} {k : Int} (o : Obj) (h : BoxV w p ao n c k W) : BoxV w p ao n c k (W.alloc o) := boxVKeep ((Below.refl _ _).alloc (Nat.le_refl _) _) h

set_option maxRecDepth 100000 in
set_option maxHeartbeats 4000000 in
theorem iVectorsOfNorm_c (p : Int) (sv : Value) (n : Nat) (s : Nat → Int) (k : Int) (w : World) (h : Ints w sv n s) :
    Calls Try.prog 25 #[dbl p sv, .int .i64 k] w fun e w' => ResCT w w' e (vCode p n s k) (cnt (okV p s n k) (p ^ n).toNat) (fun _ => n) (vonT p s n k) := by
  have H' := Lib.hid h
  obtain ⟨ao, c, b, o, rfl, p2, p3, qx⟩ := h.out
  clear qx
  have hbx := boxV0 w p ao n c k
  have BX := Lib.hid hbx
  obtain ⟨e0, e1, e2, e4, e3⟩ := hbx
  cases hok : spB p n s
  · have hvc : vCode p n s k = 1 := by unfold vCode; rw [hok]; rfl
    rw [hvc]
    go_enter Try.func25, Try.ntmps25
    go_wp2_with fail
    refine Calls.makes' (iIsSp_c _ _ _ _ _ (H'.out.below e3)) _ fun w1 hb1 => ?_
    rw [hok]
    go_wp2
    go_ret2
    exact ⟨e3.trans (hb1.mono e3.size), Or.inr ⟨by decide, rfl⟩⟩
  · have hsp := spB_ok hok
    have hpb := hsp.bd
    have hn6 := hsp.n6
    have hvc : vCode p n s k = if inB k 0 (p - 1) then (if 5000 < p ^ n then 3 else 0) else 2 := by unfold vCode; rw [hok]; rfl
    rw [hvc]
    have HOK := Lib.hid hok
    have HV : Hid (∀ W, Below w.heap.size w W → SV W (.slice ao n c) p n s) := fun W hb => ⟨H'.out.below hb, hsp⟩
    obtain ⟨q, hq⟩ : ∃ q, inB k 0 (p - 1) = q := ⟨_, rfl⟩
    have HIS : Hid (∀ W v, Ints W v 1 (fun _ => k) → Calls Try.prog 72 #[.int .i64 p, v] W fun e w' => e = .returned (.bool q) ∧ W = w') := fun W v hv => (by rw [inPB_one, hq] : inPB 0 p 1 (fun _ => k) = q) ▸ iIs_c p v 1 _ W hv (by omega) (by omega)
    rw [hq]
    cases q
    · rw [if_neg (by simp)]
      clear hok hsp hvc hq h
      go_enter Try.func25, Try.ntmps25
      go_wp2_with fail
      refine Calls.makes' (iIsSp_c _ _ _ _ _ (H'.out.below e3)) _ fun w1 hb1 => ?_
      rw [HOK.out]
      have bx1 := boxVKeep hb1 BX.out
      have BX1 := Lib.hid (boxVKeep (drewB w1) bx1)
      obtain ⟨f0, f1, f2, f4, f3⟩ := BX1.out
      obtain ⟨a0, a1, a2, _, _⟩ := boxVAlloc (.cells #[.int .i64 k] 2) bx1
      clear e0 e1 e2
      go_wp2
      go_region_law (first
        | (go_simp; go_at_call 72; (first | refine (HIS.out _ _ (ints1 _ _ _)).mono ?_ | refine (HIS.out _ _ ((ints1 w1.drew k 2).below hb2)).mono ?_); rintro e w' ⟨rfl, rfl⟩)
        | (go_simp; go_at_call 71; refine Calls.makes' (iSField_c _ _ _) _ fun w2 hb2 => ?_; have bx2 := boxVKeep hb2 (by first | exact BX1.out | exact boxVAlloc _ BX1.out); obtain ⟨k0, k1, k2, k4, k3⟩ := bx2))
      all_goals go_wp2
      all_goals go_ret2
      all_goals exact ⟨by first | exact k3 | exact k3.alloc k3.size _, Or.inr ⟨by decide, rfl⟩⟩
    · rw [if_pos rfl]
      have hpn := pow_sm hpb.1 hpb.2 hn6
      obtain ⟨tT, hT⟩ := Int.eq_ofNat_of_zero_le (show 0 ≤ p ^ n by omega)
      have HM : Hid (∀ W, Below w.heap.size w W → Calls Try.prog 78 #[dbl p (.slice ao n c)] W fun e w' => Makes W w' e (.bool (decide (5000 < (tT : Int))))) := fun W hb => hT ▸ iMany_c p _ n s W (HV.out W hb)
      have HTT := Lib.hid hT
      rw [hT, Int.toNat_natCast]
      by_cases hmany : 5000 < tT
      · have hdm : decide (5000 < (tT : Int)) = true := decide_eq_true (by omega)
        rw [if_pos (by omega)]
        rw [hdm] at HM
        clear hok hsp hvc hq h hT hpn
        go_enter Try.func25, Try.ntmps25
        go_wp2_with fail
        refine Calls.makes' (iIsSp_c _ _ _ _ _ (H'.out.below e3)) _ fun w1 hb1 => ?_
        rw [HOK.out]
        have bx1 := boxVKeep hb1 BX.out
        have BX1 := Lib.hid (boxVKeep (drewB w1) bx1)
        obtain ⟨f0, f1, f2, f4, f3⟩ := BX1.out
        obtain ⟨a0, a1, a2, _, _⟩ := boxVAlloc (.cells #[.int .i64 k] 2) bx1
        clear e0 e1 e2
        go_wp2
        go_region_law (first
          | (go_simp; go_at_call 72; (first | refine (HIS.out _ _ (ints1 _ _ _)).mono ?_ | refine (HIS.out _ _ ((ints1 w1.drew k 2).below hb2)).mono ?_); rintro e w' ⟨rfl, rfl⟩)
          | (go_simp; go_at_call 71; refine Calls.makes' (iSField_c _ _ _) _ fun w2 hb2 => ?_; have bx2 := boxVKeep hb2 (by first | exact BX1.out | exact boxVAlloc _ BX1.out); have BX2 := Lib.hid bx2; have ax2 := boxVAlloc (.cells #[.int .i64 k] 2) bx2; obtain ⟨k0, k1, k2, k4, k3⟩ := bx2; obtain ⟨m0, m1, m2, m4, m3⟩ := ax2))
        all_goals go_wp2_with fail
        all_goals refine Calls.makes' (HM.out _ (by first | exact k3 | exact m3)) _ fun w3 hb3 => ?_
        all_goals go_wp2
        all_goals go_ret2
        all_goals exact ⟨by first | exact k3.trans (hb3.mono k3.size) | exact m3.trans (hb3.mono m3.size), Or.inr ⟨by decide, rfl⟩⟩
      · have hdm : decide (5000 < (tT : Int)) = false := decide_eq_false (by omega)
        rw [if_neg (by omega)]
        rw [hdm] at HM
        clear hok hsp hvc hq h hpn
        go_enter Try.func25, Try.ntmps25
        go_wp2_with fail
        refine Calls.makes' (iIsSp_c _ _ _ _ _ (H'.out.below e3)) _ fun w1 hb1 => ?_
        rw [HOK.out]
        have bx1 := boxVKeep hb1 BX.out
        have BX1 := Lib.hid (boxVKeep (drewB w1) bx1)
        obtain ⟨f0, f1, f2, f4, f3⟩ := BX1.out
        obtain ⟨a0, a1, a2, _, _⟩ := boxVAlloc (.cells #[.int .i64 k] 2) bx1
        clear e0 e1 e2
        go_wp2
        go_region_law (first
          | (go_simp; go_at_call 72; (first | refine (HIS.out _ _ (ints1 _ _ _)).mono ?_ | refine (HIS.out _ _ ((ints1 w1.drew k 2).below hb2)).mono ?_); rintro e w' ⟨rfl, rfl⟩)
          | (go_simp; go_at_call 71; refine Calls.makes' (iSField_c _ _ _) _ fun w2 hb2 => ?_; have bx2 := boxVKeep hb2 (by first | exact BX1.out | exact boxVAlloc _ BX1.out); have BX2 := Lib.hid bx2; have ax2 := boxVAlloc (.cells #[.int .i64 k] 2) bx2; obtain ⟨k0, k1, k2, k4, k3⟩ := bx2; obtain ⟨m0, m1, m2, m4, m3⟩ := ax2))
        all_goals go_wp2_with fail
        all_goals refine Calls.makes' (HM.out _ (by first | exact k3 | exact m3)) _ fun w3 hb3 => ?_
        all_goals have BX3 : Hid (BoxV w p ao n c k w3) := boxVKeep hb3 (by first | exact ⟨k0, k1, k2, k4, k3⟩ | exact ⟨m0, m1, m2, m4, m3⟩)
        all_goals clear k0 k1 k2 k4 k3 m0 m1 m2 m4 m3 BX2 hb3 hb2 a0 a1 a2 f0 f1 f2 f4 f3 BX1 bx1
        all_goals have hmf : ∀ (fn : Fn) (first cap : Array Value) (w : World), (Instr.makeFunc fn first cap).run Try.prog w = .ok (.func fn first cap) w := fun _ _ _ _ => rfl
        all_goals
          have bx3 := boxVAlloc (.cells #[] 24) BX3.out
          have bx4 := boxVAlloc (.cells #[.slice (some ⟨w3.heap.size, 0, none⟩) 0 0] 39) bx3
          have BX4 := Lib.hid bx4
          have hsA : (w3.alloc (.cells #[] 24)).heap.size = w3.heap.size + 1 := alloc_size _ _
          have hsB : ((w3.alloc (.cells #[] 24)).alloc (.cells #[.slice (some ⟨w3.heap.size, 0, none⟩) 0 0] 39)).heap.size = (w3.alloc (.cells #[] 24)).heap.size + 1 := alloc_size _ _
          have hOb := Own.new (w3.alloc (.cells #[] 24)) 39 #[.slice (some ⟨w3.heap.size, 0, none⟩) 0 0] (fun _ => .slice (some ⟨w3.heap.size, 0, none⟩) 0 0) (by simp) (fun i hi => by
            obtain rfl : i = 0 := by simp at hi; omega
            rfl)
          have hOt : Own ((w3.alloc (.cells #[] 24)).alloc (.cells #[.slice (some ⟨w3.heap.size, 0, none⟩) 0 0] 39)) 24 w3.heap.size 0 0 (fun _ => undef) := (Own.empty w3 24 (fun _ => undef)).alloc _
          have hcb := hOb.cell (i := 0) (by simp)
          have hfb := hOb.frozen 0
          rw [hsA] at hcb hfb
          have hl3 := BX3.out.2.2.2.1
          have HCall := Lib.hid (iVectors_c w p s ao n c k w.heap.size (w.heap.size + 1) (w3.heap.size + 1) w3.heap.size tT _ (HV.out w (Below.refl _ _)) HTT.out (by omega) (Nat.le_refl _) (by omega) (by omega) (by omega) (by omega) ⟨by omega, by omega, by omega⟩ bx4.2.2.2.2 bx4.1 bx4.2.1 bx4.2.2.1 hfb hcb hOt)
          obtain ⟨k0, k1, k2, k4, k3⟩ := bx4
          clear bx3 hOb hOt hfb hl3 hT
          go_wp2_with fail
          go_at_call 79
          refine HCall.out.mono ?_
          rintro e w5 ⟨rfl, gv, hv5⟩
          obtain ⟨g', c', G, q1, q2, q3⟩ := hv5.tab
          have hbl := hv5.below
          clear hv5
          go_wp2
          go_ret2
          subst q2
          refine ⟨hbl, Or.inl ⟨rfl, g', c', rfl, ?_⟩⟩
          have e : vonT p s n k = fun i => vecT p n (sel (okV p s n k) tT i) := by funext i; unfold vonT; rw [HTT.out, Int.toNat_natCast]
          rw [e]; exact q3.otab

end Go.Proofs.Ytnkflgigbielgaa
