/-
  VectorsOfNorm, by the program. No condition beside sizes.
-/
import Derived.Test.YtnkflgigbielgaaSV2
import Derived.Test.YtnkflgigbielgaaSP4
set_option linter.unusedVariables false
set_option linter.unusedSimpArgs false
namespace Go.Proofs.Ytnkflgigbielgaa
open Go.RowKit

/-- an owned table that has nothing in the blocks of S -/
structure OTabS (w : World) (B : Nat) (S : Nat → Prop) (g cap G : Nat) (L : Nat → Nat) (T : Nat → Nat → Int) : Prop where
  out : ∃ R C : Nat → Nat, Own w 24 g cap G (fun i => .slice (some ⟨R i, 0, none⟩) (L i) (C i)) ∧ (B ≤ g ∧ ¬ S g) ∧
    (∀ i, i < G → Own w 2 (R i) (C i) (L i) (fun j => .int .i64 (T i j)) ∧ B ≤ R i ∧ R i ≠ g ∧ ¬ S (R i)) ∧ ∀ i j, i < G → j < i → R i ≠ R j
theorem OTabS.otab {w : World} {B : Nat} {S : Nat → Prop} {g cap G : Nat} {L : Nat → Nat} {T : Nat → Nat → Int} (h : OTabS w B S g cap G L T) : OTab w B g cap G L T := by
  obtain ⟨R, C, h1, h2, h3, h4⟩ := h.out
  exact ⟨R, C, h1, h2.1, fun i hi => ⟨(h3 i hi).1, (h3 i hi).2.1, (h3 i hi).2.2.1⟩, h4⟩
theorem OTabS.kept {w w' : World} {B : Nat} {S : Nat → Prop} {g cap G : Nat} {L : Nat → Nat} {T : Nat → Nat → Int} (h : OTabS w B S g cap G L T) (hb : Below w.heap.size w w') : OTabS w' B S g cap G L T := by
  obtain ⟨R, C, h1, h2, h3, h4⟩ := h.out
  exact ⟨R, C, h1.kept hb, h2, fun i hi => ⟨(h3 i hi).1.kept hb, (h3 i hi).2⟩, h4⟩
theorem OTabS.chg {w w' : World} {B : Nat} {S : Nat → Prop} {g cap G x : Nat} {L : Nat → Nat} {T : Nat → Nat → Int} (h : OTabS w B S g cap G L T) (hx : S x) (hc : Chg w w' (· = x)) : OTabS w' B S g cap G L T := by
  obtain ⟨R, C, h1, h2, h3, h4⟩ := h.out
  exact ⟨R, C, hc.own h1 (fun e => h2.2 (by have e : g = x := e; rw [e]; exact hx)), h2, fun i hi => ⟨hc.own (h3 i hi).1 (fun e => (h3 i hi).2.2.2 (by have e : R i = x := e; rw [e]; exact hx)), (h3 i hi).2⟩, h4⟩
theorem OTabS.congr {w : World} {B : Nat} {S : Nat → Prop} {g cap G : Nat} {L L' : Nat → Nat} {T T' : Nat → Nat → Int} (h : OTabS w B S g cap G L T) (hL : ∀ i, i < G → L i = L' i) (hT : ∀ i j, i < G → j < L i → T i j = T' i j) : OTabS w B S g cap G L' T' := by
  obtain ⟨R, C, h1, h2, h3, h4⟩ := h.out
  exact ⟨R, C, h1.congr fun i hi => by rw [hL i hi], h2, fun i hi => ⟨by rw [← hL i hi]; exact (h3 i hi).1.congr fun j hj => by rw [hT i j hi hj], (h3 i hi).2⟩, h4⟩
theorem OTabS.pushAt {w : World} {B : Nat} {S : Nat → Prop} {g cap G : Nat} {L : Nat → Nat} {T : Nat → Nat → Int} (h : OTabS w B S g cap G L T) (hB : B ≤ w.heap.size) (hx : ∀ x, S x → x < w.heap.size) : ∃ V, Own w 24 g cap G V ∧
    ∀ (wr w' : World) (g' cap' r c n : Nat) (X : Nat → Int), Below w.heap.size w wr → Own wr 2 r c n (fun j => .int .i64 (X j)) → w.heap.size ≤ r → Own w' 24 g' cap' (G + 1) (fun j => if j = G then .slice (some ⟨r, 0, none⟩) n c else V j) →
      (g' = g ∨ wr.heap.size ≤ g') → wr.grownBy w' (some g) → OTabS w' B S g' cap' (G + 1) (fun i => if i = G then n else L i) (fun i => if i = G then X else T i) := by
  obtain ⟨R, C, h1, h2, h3, h4⟩ := h.out
  refine ⟨_, h1, fun wr w' g' cap' r c n X hb hr hrB hO hg hgr => ?_⟩
  have hs := hb.size
  have hgl := h1.lt
  refine ⟨fun i => if i = G then r else R i, fun i => if i = G then c else C i, hO.congr fun i hi => ?_, ⟨by omega, fun hS => ?_⟩, fun i hi => ?_, fun i j hi hj => ?_⟩
  · by_cases e : i = G
    · subst e; simp
    · simp [e]
  · have := hx _ hS
    rcases hg with h | h
    · rw [h] at hS; exact h2.2 hS
    · omega
  · by_cases e : i = G
    · subst e; simp only [if_true]
      have := hr.lt
      exact ⟨hr.grown hgr (by intro e; injection e with e; omega), by omega, by omega, fun hS => by have := hx _ hS; omega⟩
    · have hi' : i < G := by omega
      simp only [if_neg e]
      have h5 := (h3 i hi').1.lt
      refine ⟨((h3 i hi').1.kept hb).grown hgr (by intro e; injection e with e; exact (h3 i hi').2.2.1 e.symm), (h3 i hi').2.1, ?_, (h3 i hi').2.2.2⟩
      rcases hg with h | h
      · rw [h]; exact (h3 i hi').2.2.1
      · omega
  · by_cases e : i = G
    · subst e
      have := (h3 j hj).1.lt
      simp only [if_true, if_neg (show j ≠ i by omega)]; omega
    · simp only [if_neg e, if_neg (show j ≠ G by omega)]; exact h4 i j (by omega) hj

/-- the blocks of the boxes and of the vector -/
def boxS (b1 b2 b3 bx gv : Nat) (x : Nat) : Prop := x = b1 ∨ x = b2 ∨ x = b3 ∨ x = bx ∨ x = gv
/-- the boxes, and the list that the closure has made of the first t vectors -/
structure VS (w0 : World) (p : Int) (s : Nat → Int) (ao : Option Addr) (n c : Nat) (k : Int) (b1 b2 b3 bx gv t : Nat) (wr : World) : Prop where
  below : Below w0.heap.size w0 wr
  c0 : wr.cell? ⟨b1, 0, none⟩ = some (.int .i64 p)
  c1 : wr.cell? ⟨b1, 1, none⟩ = some (.slice ao n c)
  c2 : wr.cell? ⟨b2, 0, none⟩ = some (.int .i64 k)
  cx : wr.cell? ⟨bx, 0, none⟩ = some (.int .i64 p)
  f3 : wr.frozen? ⟨b3, 0, none⟩ = false
  tab : ∃ g' c' G, wr.cell? ⟨b3, 0, none⟩ = some (.slice (some ⟨g', 0, none⟩) G c') ∧ G = cnt (okV p s n k) t ∧ OTabS wr w0.heap.size (boxS b1 b2 b3 bx gv) g' c' G (fun _ => n) (fun i => vecT p n (sel (okV p s n k) t i))
/-- where the boxes lie -/
structure VB (w0 : World) (b1 b2 b3 bx gv : Nat) : Prop where
  l1 : w0.heap.size ≤ b1
  l2 : b1 < b2
  l3 : b2 < b3
  l4 : b3 < bx
  l5 : bx < gv
theorem frz_of_block {w w' : World} {a : Addr} (h : w'.heap[a.block]? = w.heap[a.block]?) : w'.frozen? a = w.frozen? a := World.frozen?_of_block h
theorem VS.chgV {w0 : World} {p : Int} {s : Nat → Int} {ao : Option Addr} {n c : Nat} {k : Int} {b1 b2 b3 bx gv t : Nat} {W W' : World} (hb : VB w0 b1 b2 b3 bx gv) (h : VS w0 p s ao n c k b1 b2 b3 bx gv t W) (hc : Chg W W' (· = gv)) : VS w0 p s ao n c k b1 b2 b3 bx gv t W' := by
  have l1 := hb.l1; have l2 := hb.l2; have l3 := hb.l3; have l4 := hb.l4; have l5 := hb.l5
  obtain ⟨g', c', G, h1, h2, h3⟩ := h.tab
  refine ⟨h.below.trans (hc.below h.below.size (fun x hx => by have hx : x = gv := hx; omega)), hc.cellN (by omega) h.c0, hc.cellN (by omega) h.c1, hc.cellN (by omega) h.c2, hc.cellN (by omega) h.cx, ?_, g', c', G, hc.cellN (by omega) h1, h2, h3.chg (Or.inr (Or.inr (Or.inr (Or.inr rfl)))) hc⟩
  rw [frz_of_block (w := W) (hc.block b3 (lt_of_cell h1) (by intro e; have e : b3 = gv := e; omega))]; exact h.f3

theorem box4Keep {w W W' : World} {b1 b2 b3 : Nat} {v1 v2 v3 v4 : Value} (hb : Below W.heap.size W W')
    (h : W.cell? ⟨b1, 0, none⟩ = some v1 ∧ W.cell? ⟨b1, 1, none⟩ = some v2 ∧ W.cell? ⟨b2, 0, none⟩ = some v3 ∧ W.cell? ⟨b3, 0, none⟩ = some v4 ∧ Below w.heap.size w W) :
    W'.cell? ⟨b1, 0, none⟩ = some v1 ∧ W'.cell? ⟨b1, 1, none⟩ = some v2 ∧ W'.cell? ⟨b2, 0, none⟩ = some v3 ∧ W'.cell? ⟨b3, 0, none⟩ = some v4 ∧ Below w.heap.size w W' :=
  ⟨cellKp hb h.1, cellKp hb h.2.1, cellKp hb h.2.2.1, cellKp hb h.2.2.2.1, h.2.2.2.2.trans (hb.mono h.2.2.2.2.size)⟩
theorem box4Below {w W : World} {b1 b2 b3 : Nat} {v1 v2 v3 v4 : Value}
    (h : W.cell? ⟨b1, 0, none⟩ = some v1 ∧ W.cell? ⟨b1, 1, none⟩ = some v2 ∧ W.cell? ⟨b2, 0, none⟩ = some v3 ∧ W.cell? ⟨b3, 0, none⟩ = some v4 ∧ Below w.heap.size w W) : Below w.heap.size w W := h.2.2.2.2

set_option maxRecDepth 100000 in
set_option maxHeartbeats 2000000 in
theorem iVonCl_c (w0 : World) (p : Int) (s : Nat → Int) (ao : Option Addr) (n c : Nat) (k : Int) (b1 b2 b3 bx gv t : Nat) (w : World) (hvb : VB w0 b1 b2 b3 bx gv) (hd : SV w0 (.slice ao n c) p n s) (h : VS w0 p s ao n c k b1 b2 b3 bx gv t w) (hO : Own w 2 gv n n (fun i => .int .i64 (vecT p n t i))) (ht : t ≤ 5000) :
    Calls Try.prog 80 #[.slice (some ⟨gv, 0, none⟩) n n, .pointer (some ⟨b1, 0, none⟩), .pointer (some ⟨b2, 0, none⟩), .pointer (some ⟨b3, 0, none⟩)] w fun e w' => e = .returned (.bool false) ∧ VS w0 p s ao n c k b1 b2 b3 bx gv (t + 1) w' ∧ Own w' 2 gv n n (fun i => .int .i64 (vecT p n t i)) := by
  have hpb := hd.ok.bd
  have hn6 := hd.ok.n6
  have l1 := hvb.l1
  have l2 := hvb.l2
  have l3 := hvb.l3
  have l4 := hvb.l4
  have l5 := hvb.l5
  have HVB := Lib.hid hvb
  obtain ⟨a, ha⟩ : ∃ a, pairF p s n (vecT p n t) (vecT p n t) = a := ⟨_, rfl⟩
  have HP : Hid (∀ W, Below w.heap.size w W → Calls Try.prog 73 #[dbl p (.slice ao n c), .slice (some ⟨gv, 0, none⟩) n n] W fun e w' => Makes W w' e (.int .i64 a)) := fun W hb => ha ▸ iSNorm_c p _ _ n s _ W (hd.below (h.below.trans (hb.mono h.below.size))) ⟨(hO.kept hb).ints, vecT_in (by omega) n t n⟩
  have hoke : Hid (okV p s n k t = (a == k)) := by unfold okV; rw [ha]; exact rfl
  obtain ⟨g', c', G, q1, q2, q3⟩ := h.tab
  have c0 := h.c0
  have c1 := h.c1
  have c2 := h.c2
  have f3 := h.f3
  have CX := Lib.hid h.cx
  have hbel := Lib.hid h.below
  have hgl := hO.lt
  have HO := Lib.hid hO
  have HT := Lib.hid q3
  have HG := Lib.hid q2
  have hGt : G ≤ t := by rw [q2]; exact cnt_le _ _
  clear ha hd h hO hvb q2 q3
  cases hq : (a == k)
  · go_enter Try.func80, Try.ntmps80
    go_wp2
    go_region_held3 (fun W => W.cell? ⟨b1, 0, none⟩ = some (.int .i64 p) ∧ W.cell? ⟨b1, 1, none⟩ = some (.slice ao n c) ∧ W.cell? ⟨b2, 0, none⟩ = some (.int .i64 k) ∧ W.cell? ⟨b3, 0, none⟩ = some (.slice (some ⟨g', 0, none⟩) G c') ∧ Below w.heap.size w W)
      ((first | assumption | exact box4Keep (drewB _) ⟨c0, c1, c2, q1, Below.refl _ _⟩ | exact box4Keep (by assumption) (by assumption)))
      ((first | (go_at_call 73; refine Calls.makes' (HP.out _ (box4Below (by assumption))) _ fun w1 hb1 => ?_)))
    go_wp2
    go_ret
    rename_i hHeld
    have hb := hHeld.2.2.2.2
    refine ⟨rfl, ⟨hbel.out.trans (hb.mono hbel.out.size), hHeld.1, hHeld.2.1, hHeld.2.2.1, cellKp hb CX.out, ?_, g', c', G, hHeld.2.2.2.1, ?_, ?_⟩, HO.out.kept hb⟩
    · rw [frz_of_block (w := w) (hb.block b3 (by omega))]; exact f3
    · have hn : okV p s n k t = false := hoke.out.trans hq
      rw [HG.out]; simp [cnt, hn]
    · exact (HT.out.kept hb).congr (fun i hi => rfl) (fun i j hi hj => by rw [sel_old (by have := HG.out; omega)])
  · go_enter Try.func80, Try.ntmps80
    go_wp2
    go_region_held3 (fun W => W.cell? ⟨b1, 0, none⟩ = some (.int .i64 p) ∧ W.cell? ⟨b1, 1, none⟩ = some (.slice ao n c) ∧ W.cell? ⟨b2, 0, none⟩ = some (.int .i64 k) ∧ W.cell? ⟨b3, 0, none⟩ = some (.slice (some ⟨g', 0, none⟩) G c') ∧ Below w.heap.size w W)
      ((first | assumption | exact box4Keep (drewB _) ⟨c0, c1, c2, q1, Below.refl _ _⟩ | exact box4Keep (by assumption) (by assumption)))
      ((first | (go_at_call 73; refine Calls.makes' (HP.out _ (box4Below (by assumption))) _ fun w1 hb1 => ?_)))
    rename_i hHeld
    have hb := hHeld.2.2.2.2
    have hs1 := hb.size
    obtain ⟨V, hV, hpush⟩ := HT.out.pushAt hbel.out.size (fun x hx => by rcases hx with h | h | h | h | h <;> omega)
    have HPU := Lib.hid hpush
    have HVV := Lib.hid ((hV.kept hb).drew)
    have hne : g' ≠ b1 ∧ g' ≠ b2 ∧ g' ≠ b3 ∧ g' ≠ gv ∧ g' ≠ bx ∧ w0.heap.size ≤ g' ∧ g' < w.heap.size := by
      have hgl' := hV.lt
      obtain ⟨R, C, _, h2, _⟩ := HT.out.out
      exact ⟨fun e => h2.2 (Or.inl e), fun e => h2.2 (Or.inr (Or.inl e)), fun e => h2.2 (Or.inr (Or.inr (Or.inl e))), fun e => h2.2 (Or.inr (Or.inr (Or.inr (Or.inr e)))), fun e => h2.2 (Or.inr (Or.inr (Or.inr (Or.inl e)))), h2.1, hgl'⟩
    obtain ⟨m1, m2, m3, m4, m7, m5, m6⟩ := hne
    have y1 : w1.drew.cell? ⟨b3, 0, none⟩ = some (.slice (some ⟨g', 0, none⟩) G c') := hHeld.2.2.2.1
    have HHELD := Lib.hid hHeld
    have HOd := Lib.hid ((HO.out.kept hb).drew)
    have hsz1 : w1.drew.heap.size = w1.heap.size := rfl
    clear hHeld hpush hV hb1 c0 c1 c2 q1
    go_wp2
    go_region_law (first
      | (go_simp; go_at_call 81; refine (iClone_c gv n n (vecT p n t) _ HOd.out (by omega)).mono ?_; rintro e w6 ⟨g6, c6, rfl, hg6, hb6, hO6⟩; have y6 : w6.cell? ⟨b3, 0, none⟩ = some (.slice (some ⟨g', 0, none⟩) G c') := cellKp hb6 y1; have y6' : (w6.alloc (.cells #[.slice (some ⟨g6, 0, none⟩) n c6] 24)).cell? ⟨b3, 0, none⟩ = some (.slice (some ⟨g', 0, none⟩) G c') := cellKp ((Below.refl _ _).alloc (Nat.le_refl _) _) y6; have hV6 := HVV.out.kept hb6; have hs6 := hb6.size)
      | (refine step_push rfl _ _ _ _ elR rfl hV6 (.slice (some ⟨g6, 0, none⟩) n c6) rfl rfl rfl (by omega) (by omega) ?_; intro g3 c3 w3 hO3 hg3 hgr3; have y7 : w3.cell? ⟨b3, 0, none⟩ = some (.slice (some ⟨g', 0, none⟩) G c') := (World.cell?_of_block (hgr3.block b3 (by omega) (by intro e; injection e with e; exact m3 e.symm))).trans y6; have y8 : w3.frozen? ⟨b3, 0, none⟩ = false := by rw [frz_of_block (w := w6) (hgr3.block b3 (by omega) (by intro e; injection e with e; exact m3 e.symm)), frz_of_block (w := w1) (hb6.block b3 (by omega)), frz_of_block (w := w) (HHELD.out.2.2.2.2.block b3 (by omega))]; exact f3))
    all_goals go_wp2
    all_goals go_ret
    all_goals
      have hb' : Below w.heap.size w w6 := hb.drew.trans (hb6.mono hs1)
      have hb0 : Below w0.heap.size w0 w6 := hbel.out.trans (hb'.mono hbel.out.size)
      have hbs := hbel.out.size
      obtain ⟨u, hu⟩ : ∃ u, Value.slice (some ⟨g3, 0, none⟩) (G + 1) c3 = u := ⟨_, rfl⟩
      have hcs : Chg w3 (w3.setCell ⟨b3, 0, none⟩ u) (· = b3) := (Chg.refl w3 (· = b3)).setCell (a := ⟨b3, 0, none⟩) rfl u
      have cw : ∀ b, b ≠ g' → b ≠ b3 → b < w6.heap.size → (w3.setCell ⟨b3, 0, none⟩ u).heap[b]? = w6.heap[b]? := fun b h1 h2 h3 => (hcs.block b (by have := hgr3.size; omega) h2).trans (hgr3.block b h3 (by intro e; injection e with e; exact h1 e))
      obtain ⟨q0, q1, q2, q3, q4⟩ := HHELD.out
      have hn : okV p s n k t = true := hoke.out.trans hq
      have hG := HG.out
      have hT9 := ((HPU.out _ _ _ _ _ _ _ _ hb' hO6 (by omega) hO3 hg3 hgr3).chg (Or.inr (Or.inr (Or.inl rfl))) hcs).congr (L' := fun _ => n) (T' := fun i => vecT p n (sel (okV p s n k) (t + 1) i)) (fun i hi => by by_cases e : i = G <;> simp [e]) (fun i j hi hj => by
        by_cases e : i = G
        · subst e; simp only [if_true]; rw [hG, sel_new hn]
        · simp only [if_neg e]; rw [sel_old (by omega)])
      rw [hu]
      refine ⟨rfl, ⟨(hb0.grown hgr3 (by omega) (fun k e => by injection e with e; omega)).setCell (by show _ ≤ b3; omega) _, (World.cell?_of_block (w := w6) (cw b1 (Ne.symm m1) (by omega) (by omega))).trans (cellKp hb6 q0), (World.cell?_of_block (w := w6) (cw b1 (Ne.symm m1) (by omega) (by omega))).trans (cellKp hb6 q1), (World.cell?_of_block (w := w6) (cw b2 (Ne.symm m2) (by omega) (by omega))).trans (cellKp hb6 q2), (World.cell?_of_block (w := w6) (cw bx (Ne.symm m7) (by omega) (by omega))).trans (cellKp hb6 (cellKp hb.drew CX.out)), ?_, g3, c3, G + 1, ?_, ?_, hT9⟩, ?_⟩
      · rw [World.frozen?_setCell]; exact y8
      · rw [hu]; exact World.cell?_setCell_same _ _ _ y7
      · simp [cnt, hn, hG]
      · exact ((HOd.out.kept hb6).grown hgr3 (by intro e; injection e with e; exact m4 e)).setOther (by show gv ≠ b3; omega) _

end Go.Proofs.Ytnkflgigbielgaa
