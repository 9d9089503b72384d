/-
  The draws: a space. No condition beside sizes.
-/
import Derived.Test.YtnkflgigbielgaaLD2
import Derived.Test.YtnkflgigbielgaaSP1
set_option linter.unusedVariables false
set_option linter.unusedSimpArgs false
namespace Go.Proofs.Ytnkflgigbielgaa
open Go.RowKit

theorem OI.high {w : World} {B U U' : Nat} {a : Option Addr} {c n : Nat} {X : Nat → Int} (h : OI w B U a c n X) (hU : U ≤ U') : OI w B U' a c n X := by
  rcases h.out with h | ⟨g, h1, h2, hO⟩
  · exact ⟨Or.inl h⟩
  · exact ⟨Or.inr ⟨g, h1, ⟨h2.1, by omega⟩, hO⟩⟩
theorem OI.by {w w' : World} {B U : Nat} {a : Option Addr} {c n : Nat} {X : Nat → Int} {S : Nat → Prop} (h : OI w B U a c n X) (hc : Chg w w' S) (hd : ∀ k, S k → k < B ∨ U ≤ k) : OI w' B U a c n X := by
  rcases h.out with h | ⟨g, h1, h2, hO⟩
  · exact ⟨Or.inl h⟩
  · exact ⟨Or.inr ⟨g, h1, h2, hc.own hO (fun e => by have := hd g e; omega)⟩⟩
theorem Src.by {w w' : World} {g : Nat} {cv : Value} {n : Nat} {S : Nat → Prop} (h : Src w g cv n) (hc : Chg w w' S) (hd : ¬ S g) : Src w' g cv n := by
  obtain ⟨k, x, h1, h2⟩ := h.out
  exact ⟨k, x, h1, hc.own h2 hd⟩
/-- what is known while a space is drawn: its box bd, the result's box br, the list of its steps -/
structure DrSt (w wr : World) (g : Nat) (cv : Value) (n br bd : Nat) (P : Int) (a : Option Addr) (c m : Nat) (s : Nat → Int) : Prop where
  ord : g < w.heap.size ∧ w.heap.size ≤ br ∧ br < bd ∧ bd < wr.heap.size
  src : Src wr g cv n
  chg : Chg w wr (· = g)
  box : Own wr 26 bd 2 2 (fun i => if i = 0 then .int .i64 P else .slice a m c)
  res : Own wr 26 br 2 2 (fun i => if i = 0 then .int .i64 0 else .slice none 0 0)
  lst : OI wr (bd + 1) wr.heap.size a c m s
theorem DrSt.step {w wr w' : World} {g : Nat} {cv : Value} {n br bd : Nat} {P : Int} {a : Option Addr} {c m : Nat} {s : Nat → Int} (h : DrSt w wr g cv n br bd P a c m s) (hd : Drew wr w' g cv n) : DrSt w w' g cv n br bd P a c m s := by
  have ho := h.ord
  have hs := hd.chg.size
  refine ⟨⟨ho.1, ho.2.1, ho.2.2.1, by omega⟩, hd.src, h.chg.trans hd.chg, hd.chg.own h.box (by show ¬ bd = g; omega), hd.chg.own h.res (by show ¬ br = g; omega), (h.lst.by hd.chg fun k e => ?_).high hs⟩
  have e : k = g := e
  omega
theorem DrSt.kept {w wr w' : World} {g : Nat} {cv : Value} {n br bd : Nat} {P : Int} {a : Option Addr} {c m : Nat} {s : Nat → Int} (h : DrSt w wr g cv n br bd P a c m s) (hb : Below wr.heap.size wr w') : DrSt w w' g cv n br bd P a c m s := by
  have ho := h.ord
  have hs := hb.size
  exact ⟨⟨ho.1, ho.2.1, ho.2.2.1, by omega⟩, h.src.kept hb, h.chg.trans (Chg.of_below hb _), h.box.kept hb, h.res.kept hb, (h.lst.kept hb).high hs⟩
/-- the steps appended to, and the box set -/
theorem DrSt.push {w wr w' : World} {g : Nat} {cv : Value} {n br bd : Nat} {P : Int} {a a' : Option Addr} {c c' m : Nat} {s s' : Nat → Int} (h : DrSt w wr g cv n br bd P a c m s) (hc : Chg wr w' (IV (bd + 1) wr.heap.size)) (hl : OI w' (bd + 1) w'.heap.size a' c' (m + 1) s') :
    DrSt w (w'.setCell ⟨bd, 1, none⟩ (.slice a' (m + 1) c')) g cv n br bd P a' c' (m + 1) s' := by
  have ho := h.ord
  have hs := hc.size
  have hsz : (w'.setCell ⟨bd, 1, none⟩ (.slice a' (m + 1) c')).heap.size = w'.heap.size := by simp [World.setCell]
  have hw : Chg w w' (· = g) := ⟨hc.os.trans h.chg.os, hc.tape.trans h.chg.tape, hc.output.trans h.chg.output, Nat.le_trans h.chg.size hs, fun k hk hne => (hc.block k (by have := h.chg.size; omega) (fun e => by have := e.1; omega)).trans (h.chg.block k hk hne)⟩
  have hbx : ¬ IV (bd + 1) wr.heap.size bd := fun e => by have := e.1; omega
  have hrs : ¬ IV (bd + 1) wr.heap.size br := fun e => by have := e.1; omega
  have hgs : ¬ IV (bd + 1) wr.heap.size g := fun e => by have := e.1; omega
  refine ⟨⟨ho.1, ho.2.1, ho.2.2.1, by omega⟩, ?_, ⟨hw.os, hw.tape, hw.output, by rw [hsz]; exact hw.size, fun k hk hne => (Below.heap_setCell _ _ _ _ (by show k ≠ bd; omega)).trans (hw.block k hk hne)⟩, ?_, (hc.own h.res hrs).setOther (by show br ≠ bd; omega) _, ?_⟩
  · obtain ⟨k, x, h1, h2⟩ := (h.src.by hc hgs).out
    exact ⟨k, x, h1, h2.setOther (by show g ≠ bd; omega) _⟩
  · exact ((hc.own h.box hbx).set 1 _).congr fun i hi => by
      have h3 : i = 0 ∨ i = 1 := by omega
      rcases h3 with rfl | rfl <;> simp
  · rw [hsz]
    rcases hl.out with h | ⟨q, h1, h2, hO⟩
    · exact ⟨Or.inl h⟩
    · exact ⟨Or.inr ⟨q, h1, h2, hO.setOther (by show q ≠ bd; omega) _⟩⟩
theorem own2 (w : World) (e : TypeId) (u0 u1 : Value) : Own (w.alloc (.cells #[u0, u1] e)) e w.heap.size 2 2 (fun i => if i = 0 then u0 else u1) :=
  Own.new w e #[u0, u1] _ (by simp) fun i hi => by
    have hi : i < 2 := by simpa using hi
    have h3 : i = 0 ∨ i = 1 := by omega
    rcases h3 with rfl | rfl <;> rfl
/-- a list of five, of eight numbers -/
theorem ints5 (w : World) (e : TypeId) (a b c d f : Int) : Own (w.alloc (.cells #[.int .i64 a, .int .i64 b, .int .i64 c, .int .i64 d, .int .i64 f] e)) e w.heap.size 5 5 (fun i => .int .i64 (if i = 0 then a else if i = 1 then b else if i = 2 then c else if i = 3 then d else f)) :=
  Own.new w e _ _ (by simp) fun i hi => by
    have hi : i < 5 := by simpa using hi
    have h3 : i = 0 ∨ i = 1 ∨ i = 2 ∨ i = 3 ∨ i = 4 := by omega
    rcases h3 with rfl | rfl | rfl | rfl | rfl <;> rfl
theorem ints8 (w : World) (e : TypeId) (a b c d f x y z : Int) : Own (w.alloc (.cells #[.int .i64 a, .int .i64 b, .int .i64 c, .int .i64 d, .int .i64 f, .int .i64 x, .int .i64 y, .int .i64 z] e)) e w.heap.size 8 8 (fun i => .int .i64 (if i = 0 then a else if i = 1 then b else if i = 2 then c else if i = 3 then d else if i = 4 then f else if i = 5 then x else if i = 6 then y else z)) :=
  Own.new w e _ _ (by simp) fun i hi => by
    have hi : i < 8 := by simpa using hi
    have h3 : i = 0 ∨ i = 1 ∨ i = 2 ∨ i = 3 ∨ i = 4 ∨ i = 5 ∨ i = 6 ∨ i = 7 := by omega
    rcases h3 with rfl | rfl | rfl | rfl | rfl | rfl | rfl | rfl <;> rfl
theorem Own.chgInts {w W : World} {e : TypeId} {g g' c n : Nat} {X : Nat → Int} (h : Own w e g' c n (fun i => .int .i64 (X i))) (hc : Chg w W (· = g)) (hne : g' ≠ g) : Ints W (.slice (some ⟨g', 0, none⟩) n c) n X := (hc.own h hne).ints

/-- the result set -/
theorem DrSt.fin {w wr : World} {g : Nat} {cv : Value} {n br bd : Nat} {P : Int} {a : Option Addr} {c m : Nat} {s : Nat → Int} (h : DrSt w wr g cv n br bd P a c m s) (u v : Value) :
    OI ((wr.setCell ⟨br, 0, none⟩ u).setCell ⟨br, 1, none⟩ v) w.heap.size ((wr.setCell ⟨br, 0, none⟩ u).setCell ⟨br, 1, none⟩ v).heap.size a c m s ∧ Drew w ((wr.setCell ⟨br, 0, none⟩ u).setCell ⟨br, 1, none⟩ v) g cv n := by
  have ho := h.ord
  have hsz : ((wr.setCell ⟨br, 0, none⟩ u).setCell ⟨br, 1, none⟩ v).heap.size = wr.heap.size := by simp [World.setCell]
  have hc : Chg wr ((wr.setCell ⟨br, 0, none⟩ u).setCell ⟨br, 1, none⟩ v) (· = br) := ((Chg.refl wr (· = br)).setCell (a := ⟨br, 0, none⟩) rfl u).setCell (a := ⟨br, 1, none⟩) rfl v
  refine ⟨?_, h.src.by hc (by show ¬ g = br; omega), hc.os.trans h.chg.os, hc.tape.trans h.chg.tape, hc.output.trans h.chg.output, by rw [hsz]; exact h.chg.size, fun k hk hne => (hc.block k (by have := h.chg.size; omega) (by show ¬ k = br; omega)).trans (h.chg.block k hk hne)⟩
  refine ((h.lst.by hc fun k e => ?_).low (by omega)).high (by rw [hsz]; exact Nat.le_refl _)
  have e : k = br := e
  omega

/-! ### an append to a list that is nil or owned, its block told -/
/-- a list that is nil, or lies in a block of its own from lo on, that is neither br nor bd -/
structure LN (w : World) (lo br bd : Nat) (a : Option Addr) (c n : Nat) (X : Nat → Int) : Prop where
  out : (a = none ∧ n = 0 ∧ c = 0) ∨ ∃ q, a = some ⟨q, 0, none⟩ ∧ (lo ≤ q ∧ q ≠ br ∧ q ≠ bd) ∧ Own w 2 q c n (fun i => .int .i64 (X i))
theorem LN.oi {w : World} {lo br bd : Nat} {a : Option Addr} {c n : Nat} {X : Nat → Int} (h : LN w lo br bd a c n X) : OI w 0 w.heap.size a c n X := by
  rcases h.out with h | ⟨q, h1, h2, hO⟩
  · exact ⟨Or.inl h⟩
  · exact ⟨Or.inr ⟨q, h1, ⟨Nat.zero_le _, hO.lt⟩, hO⟩⟩
theorem run_pushJ (w : World) (lo br bd : Nat) (a : Option Addr) (c n : Nat) (X : Nat → Int) (v : Int) (ty : TypeId) (hlo : lo ≤ w.heap.size ∧ br < w.heap.size ∧ bd < w.heap.size) (h : LN w lo br bd a c n X) (hn : n ≤ 1048576) :
    ∃ a' c' w', (Builtin.append_ #[24, 24] ty #[.slice a n c, .slice (some ⟨w.heap.size, 0, none⟩) 1 1]).run Try.prog (w.alloc (.cells #[.int .i64 v] 2)) = .ok (.slice a' (n + 1) c') w' ∧
      LN w' lo br bd a' c' (n + 1) (fun j => if j = n then v else X j) ∧ Chg w w' (fun k => lo ≤ k ∧ k ≠ br ∧ k ≠ bd) := by
  rcases h.out with h0 | ⟨g, rfl, hg, hO⟩
  · obtain ⟨a', c', w', hr, h2, h3⟩ := run_pushI w w.heap.size a c n X v ty (Nat.le_refl _) ⟨Or.inl h0⟩ (by omega)
    refine ⟨a', c', w', hr, ?_, ⟨h3.os, h3.tape, h3.output, h3.size, fun k hk _ => h3.block k hk (fun e => by have := e.1; omega)⟩⟩
    rcases h2.out with ⟨_, h5, _⟩ | ⟨q, h4, h5, h6⟩
    · omega
    · exact ⟨Or.inr ⟨q, h4, ⟨by omega, by omega, by omega⟩, h6⟩⟩
  · have hcell : ∀ j, j < 1 → (w.alloc (.cells #[.int .i64 v] 2)).cell? ⟨w.heap.size, 0 + j, none⟩ = some ((fun _ => Value.int .i64 v) j) := fun j hj => by
      obtain rfl : j = 0 := by omega
      simp
    obtain ⟨g', cap', w', hr, h2, h3, h4⟩ := run_app (P := Try.prog) (w.alloc (.cells #[.int .i64 v] 2)) elI ty (hO.alloc _) w.heap.size 0 1 1 (fun _ => .int .i64 v) hcell (fun _ _ => rfl) (by omega) (by omega)
    have hs4 := h4.size
    simp only [alloc_size] at hs4 h3
    refine ⟨some ⟨g', 0, none⟩, cap', w', hr, ⟨Or.inr ⟨g', rfl, ⟨by omega, by omega, by omega⟩, h2.congr fun j hj => ?_⟩⟩, h4.os, h4.tape, h4.output, by omega, fun k hk hS => ?_⟩
    · by_cases e : j = n
      · subst e; simp
      · rw [if_pos (by omega), if_neg e]
    · exact (h4.block k (by simp; omega) (fun e => by injection e with e; exact hS ⟨by omega, by omega, by omega⟩)).trans (Below.heap_alloc _ _ _ hk)
theorem wpList_pushJ (w : World) {ops : Array Oper} {rest : List Oper} {o : Oper} {a : Act} {Q : Exit → Act → World → Prop} (hgd : o.guard = none) (s x : Operand)
    (ho : o.op = .call { callee := .builtin .append, args := #[s, x], argTypes := #[24, 24] })
    {lo br bd c n : Nat} {ao : Option Addr} {X : Nat → Int} (hlo : lo ≤ w.heap.size ∧ br < w.heap.size ∧ bd < w.heap.size) (hown : LN w lo br bd ao c n X) (hn : n ≤ 1048576) (v : Int) (hs : a.eval s = .slice ao n c) (hx : a.eval x = .slice (some ⟨w.heap.size, 0, none⟩) 1 1)
    (h : ∀ a' c' w', LN w' lo br bd a' c' (n + 1) (fun j => if j = n then v else X j) → Chg w w' (fun k => lo ≤ k ∧ k ≠ br ∧ k ≠ bd) → wpList Try.prog ops Q rest (a.put o.dst (.slice a' (n + 1) c')) w') :
    wpList Try.prog ops Q (o :: rest) a (w.alloc (.cells #[.int .i64 v] 2)) := by
  obtain ⟨a', c', w', hr, h2, h3⟩ := run_pushJ w lo br bd ao c n X v o.type hlo hown hn
  refine wpList_plain hgd fun K hK => ?_
  unfold Oper.wp execOp
  simp only [ho, resolve, invoke, builtin, Sem.run_bind, Sem.run_pure, Result.andThen_ok, List.map_toArray, List.map_cons, List.map_nil, hs, hx, hr, Oper.upon_value]
  exact hK _ _ (h a' c' w' h2 h3)
theorem step_pushJ {ops : Array Oper} {o : Oper} {a : Act} {w : World} {K : Act → World → Prop} {Q : Exit → Act → World → Prop} {E : Prop} (hgd : o.guard = none) (s x : Operand)
    (ho : o.op = .call { callee := .builtin .append, args := #[s, x], argTypes := #[24, 24] })
    {lo br bd c n : Nat} {ao : Option Addr} {X : Nat → Int} (hlo : lo ≤ w.heap.size ∧ br < w.heap.size ∧ bd < w.heap.size) (hown : LN w lo br bd ao c n X) (hn : n ≤ 1048576) (v : Int) (hs : a.eval s = .slice ao n c) (hx : a.eval x = .slice (some ⟨w.heap.size, 0, none⟩) 1 1)
    (h : ∀ a' c' w', LN w' lo br bd a' c' (n + 1) (fun j => if j = n then v else X j) → Chg w w' (fun k => lo ≤ k ∧ k ≠ br ∧ k ≠ bd) → K (a.put o.dst (.slice a' (n + 1) c')) w') :
    if Region.wanted o (yielded ops a.tmps) = true then Oper.wp Try.prog o a (w.alloc (.cells #[.int .i64 v] 2)) K Q else E := by
  have hw : Region.wanted o (yielded ops a.tmps) = true := by simp [Region.wanted, hgd]
  rw [if_pos hw]
  obtain ⟨a', c', w', hr, h2, h3⟩ := run_pushJ w lo br bd ao c n X v o.type hlo hown hn
  unfold Oper.wp execOp
  simp only [ho, resolve, invoke, builtin, Sem.run_bind, Sem.run_pure, Result.andThen_ok, List.map_toArray, List.map_cons, List.map_nil, hs, hx, hr, Oper.upon_value]
  exact h a' c' w' h2 h3

/-- what is known while a drawn space is turned -/
structure DrS2 (w wr : World) (g : Nat) (cv : Value) (n br bd : Nat) (P : Int) (a : Option Addr) (c m : Nat) (s : Nat → Int) : Prop where
  ord : g < w.heap.size ∧ w.heap.size ≤ br ∧ br < bd ∧ bd < wr.heap.size
  src : Src wr g cv n
  chg : Chg w wr (· = g)
  box : Own wr 26 bd 2 2 (fun i => if i = 0 then .int .i64 P else .slice a m c)
  res : Own wr 26 br 2 2 (fun i => if i = 0 then .int .i64 0 else .slice none 0 0)
  lst : LN wr w.heap.size br bd a c m s
theorem LN.by {w w' : World} {lo br bd : Nat} {a : Option Addr} {c n : Nat} {X : Nat → Int} {S : Nat → Prop} (h : LN w lo br bd a c n X) (hc : Chg w w' S) (hd : ∀ k, S k → k < lo ∨ k = br ∨ k = bd ∨ w.heap.size ≤ k) : LN w' lo br bd a c n X := by
  rcases h.out with h | ⟨q, h1, h2, hO⟩
  · exact ⟨Or.inl h⟩
  · exact ⟨Or.inr ⟨q, h1, h2, hc.own hO (fun e => by have := hd q e; have := hO.lt; omega)⟩⟩
theorem DrS2.step {w wr w' : World} {g : Nat} {cv : Value} {n br bd : Nat} {P : Int} {a : Option Addr} {c m : Nat} {s : Nat → Int} (h : DrS2 w wr g cv n br bd P a c m s) (hd : Drew wr w' g cv n) : DrS2 w w' g cv n br bd P a c m s := by
  have ho := h.ord
  have hs := hd.chg.size
  refine ⟨⟨ho.1, ho.2.1, ho.2.2.1, by omega⟩, hd.src, h.chg.trans hd.chg, hd.chg.own h.box (by show ¬ bd = g; omega), hd.chg.own h.res (by show ¬ br = g; omega), h.lst.by hd.chg fun k e => ?_⟩
  have e : k = g := e
  omega
theorem DrS2.kept {w wr w' : World} {g : Nat} {cv : Value} {n br bd : Nat} {P : Int} {a : Option Addr} {c m : Nat} {s : Nat → Int} (h : DrS2 w wr g cv n br bd P a c m s) (hb : Below wr.heap.size wr w') : DrS2 w w' g cv n br bd P a c m s := by
  have ho := h.ord
  have hs := hb.size
  exact ⟨⟨ho.1, ho.2.1, ho.2.2.1, by omega⟩, h.src.kept hb, h.chg.trans (Chg.of_below hb _), h.box.kept hb, h.res.kept hb, h.lst.by (Chg.of_below hb (fun _ => False)) fun k e => e.elim⟩
theorem DrS2.push {w wr w' : World} {g : Nat} {cv : Value} {n br bd : Nat} {P : Int} {a a' : Option Addr} {c c' m : Nat} {s s' : Nat → Int} (h : DrS2 w wr g cv n br bd P a c m s) (hc : Chg wr w' (fun k => w.heap.size ≤ k ∧ k ≠ br ∧ k ≠ bd)) (hl : LN w' w.heap.size br bd a' c' (m + 1) s') :
    DrS2 w (w'.setCell ⟨bd, 1, none⟩ (.slice a' (m + 1) c')) g cv n br bd P a' c' (m + 1) s' := by
  have ho := h.ord
  have hs := hc.size
  have hsz : (w'.setCell ⟨bd, 1, none⟩ (.slice a' (m + 1) c')).heap.size = w'.heap.size := by simp [World.setCell]
  have hw : Chg w w' (· = g) := ⟨hc.os.trans h.chg.os, hc.tape.trans h.chg.tape, hc.output.trans h.chg.output, Nat.le_trans h.chg.size hs, fun k hk hne => (hc.block k (by have := h.chg.size; omega) (fun e => by have := e.1; omega)).trans (h.chg.block k hk hne)⟩
  refine ⟨⟨ho.1, ho.2.1, ho.2.2.1, by omega⟩, ?_, ⟨hw.os, hw.tape, hw.output, by rw [hsz]; exact hw.size, fun k hk hne => (Below.heap_setCell _ _ _ _ (by show k ≠ bd; omega)).trans (hw.block k hk hne)⟩, ?_, (hc.own h.res (fun e => e.2.1 rfl)).setOther (by show br ≠ bd; omega) _, ?_⟩
  · obtain ⟨k, x, h1, h2⟩ := (h.src.by hc (fun e => by have := e.1; omega)).out
    exact ⟨k, x, h1, h2.setOther (by show g ≠ bd; omega) _⟩
  · exact ((hc.own h.box (fun e => e.2.2 rfl)).set 1 _).congr fun i hi => by
      have h3 : i = 0 ∨ i = 1 := by omega
      rcases h3 with rfl | rfl <;> simp
  · rcases hl.out with h | ⟨q, h1, h2, hO⟩
    · exact ⟨Or.inl h⟩
    · exact ⟨Or.inr ⟨q, h1, h2, hO.setOther (by show q ≠ bd; omega) _⟩⟩
/-- the prime set -/
theorem DrS2.prime {w wr : World} {g : Nat} {cv : Value} {n br bd : Nat} {P : Int} {a : Option Addr} {c m : Nat} {s : Nat → Int} (h : DrS2 w wr g cv n br bd P a c m s) (P' : Int) : DrS2 w (wr.setCell ⟨bd, 0, none⟩ (.int .i64 P')) g cv n br bd P' a c m s := by
  have ho := h.ord
  have hsz : (wr.setCell ⟨bd, 0, none⟩ (.int .i64 P')).heap.size = wr.heap.size := by simp [World.setCell]
  have hc : Chg wr (wr.setCell ⟨bd, 0, none⟩ (.int .i64 P')) (· = bd) := (Chg.refl wr (· = bd)).setCell (a := ⟨bd, 0, none⟩) rfl (.int .i64 P')
  refine ⟨⟨ho.1, ho.2.1, ho.2.2.1, by omega⟩, h.src.by hc (by show ¬ g = bd; omega), ⟨hc.os.trans h.chg.os, hc.tape.trans h.chg.tape, hc.output.trans h.chg.output, by rw [hsz]; exact h.chg.size, fun k hk hne => (hc.block k (by have := h.chg.size; omega) (by show ¬ k = bd; have := h.chg.size; omega)).trans (h.chg.block k hk hne)⟩, ?_, hc.own h.res (by show ¬ br = bd; omega), h.lst.by hc fun k e => Or.inr (Or.inr (Or.inl e))⟩
  exact (h.box.set 0 _).congr fun i hi => by
    have h3 : i = 0 ∨ i = 1 := by omega
    rcases h3 with rfl | rfl <;> simp
theorem DrS2.fin {w wr : World} {g : Nat} {cv : Value} {n br bd : Nat} {P : Int} {a : Option Addr} {c m : Nat} {s : Nat → Int} (h : DrS2 w wr g cv n br bd P a c m s) (u v : Value) :
    OI ((wr.setCell ⟨br, 0, none⟩ u).setCell ⟨br, 1, none⟩ v) w.heap.size ((wr.setCell ⟨br, 0, none⟩ u).setCell ⟨br, 1, none⟩ v).heap.size a c m s ∧ Drew w ((wr.setCell ⟨br, 0, none⟩ u).setCell ⟨br, 1, none⟩ v) g cv n := by
  have ho := h.ord
  have hsz : ((wr.setCell ⟨br, 0, none⟩ u).setCell ⟨br, 1, none⟩ v).heap.size = wr.heap.size := by simp [World.setCell]
  have hc : Chg wr ((wr.setCell ⟨br, 0, none⟩ u).setCell ⟨br, 1, none⟩ v) (· = br) := ((Chg.refl wr (· = br)).setCell (a := ⟨br, 0, none⟩) rfl u).setCell (a := ⟨br, 1, none⟩) rfl v
  refine ⟨?_, h.src.by hc (by show ¬ g = br; omega), hc.os.trans h.chg.os, hc.tape.trans h.chg.tape, hc.output.trans h.chg.output, by rw [hsz]; exact h.chg.size, fun k hk hne => (hc.block k (by have := h.chg.size; omega) (by show ¬ k = br; have := h.chg.size; omega)).trans (h.chg.block k hk hne)⟩
  have hl := h.lst.by hc fun k e => Or.inr (Or.inl e)
  rcases hl.out with h0 | ⟨q, h1, h2, hO⟩
  · exact ⟨Or.inl h0⟩
  · exact ⟨Or.inr ⟨q, h1, ⟨h2.1, hO.lt⟩, hO⟩⟩
theorem ints4 (w : World) (e : TypeId) (a b c d : Int) : Own (w.alloc (.cells #[.int .i64 a, .int .i64 b, .int .i64 c, .int .i64 d] e)) e w.heap.size 4 4 (fun i => .int .i64 (if i = 0 then a else if i = 1 then b else if i = 2 then c else d)) :=
  Own.new w e _ _ (by simp) fun i hi => by
    have hi : i < 4 := by simpa using hi
    have h3 : i = 0 ∨ i = 1 ∨ i = 2 ∨ i = 3 := by omega
    rcases h3 with rfl | rfl | rfl | rfl <;> rfl
theorem ints2 (w : World) (e : TypeId) (a b : Int) : Own (w.alloc (.cells #[.int .i64 a, .int .i64 b] e)) e w.heap.size 2 2 (fun i => .int .i64 (if i = 0 then a else b)) :=
  Own.new w e _ _ (by simp) fun i hi => by
    have hi : i < 2 := by simpa using hi
    have h3 : i = 0 ∨ i = 1 := by omega
    rcases h3 with rfl | rfl <;> rfl

/-- a list's first place set -/
theorem DrS2.first {w wr : World} {g : Nat} {cv : Value} {n br bd : Nat} {P : Int} {q c m : Nat} {s : Nat → Int} (h : DrS2 w wr g cv n br bd P (some ⟨q, 0, none⟩) c m s) (hm : 1 ≤ m) (v : Int) :
    DrS2 w (wr.setCell ⟨q, 0, none⟩ (.int .i64 v)) g cv n br bd P (some ⟨q, 0, none⟩) c m (fun j => if j = 0 then v else s j) := by
  have ho := h.ord
  rcases h.lst.out with ⟨h0, _⟩ | ⟨q', h1, h2, hO⟩
  · exact absurd h0 (by simp)
  · injection h1 with h1
    injection h1 with h1
    subst h1
    have hsz : (wr.setCell ⟨q, 0, none⟩ (.int .i64 v)).heap.size = wr.heap.size := by simp [World.setCell]
    have hc : Chg wr (wr.setCell ⟨q, 0, none⟩ (.int .i64 v)) (· = q) := (Chg.refl wr (· = q)).setCell (a := ⟨q, 0, none⟩) rfl (.int .i64 v)
    have hg := h.chg.size
    refine ⟨⟨ho.1, ho.2.1, ho.2.2.1, by omega⟩, h.src.by hc (by show ¬ g = q; omega), ⟨hc.os.trans h.chg.os, hc.tape.trans h.chg.tape, hc.output.trans h.chg.output, by rw [hsz]; exact h.chg.size, fun k hk hne => (hc.block k (by omega) (by show ¬ k = q; omega)).trans (h.chg.block k hk hne)⟩, hc.own h.box (by show ¬ bd = q; omega), hc.own h.res (by show ¬ br = q; omega), ⟨Or.inr ⟨q, rfl, h2, (hO.set 0 (.int .i64 v)).congr fun i hi => ?_⟩⟩⟩
    by_cases e : i = 0
    · subst e; simp
    · simp [e]
theorem DrS2.at0 {w wr : World} {g : Nat} {cv : Value} {n br bd : Nat} {P : Int} {q c m : Nat} {s : Nat → Int} (h : DrS2 w wr g cv n br bd P (some ⟨q, 0, none⟩) c m s) (hm : 1 ≤ m) : wr.frozen? ⟨q, 0, none⟩ = false ∧ wr.cell? ⟨q, 0, none⟩ = some (.int .i64 (s 0)) := by
  rcases h.lst.out with ⟨h0, _⟩ | ⟨q', h1, h2, hO⟩
  · exact absurd h0 (by simp)
  · injection h1 with h1
    injection h1 with h1
    subst h1
    exact ⟨hO.frozen 0, hO.cell (by omega)⟩
/-- the list set to one that is empty, in a new block -/
theorem DrS2.none0 {w wr : World} {g : Nat} {cv : Value} {n br bd : Nat} {P : Int} {a : Option Addr} {c m : Nat} {s : Nat → Int} (h : DrS2 w wr g cv n br bd P a c m s) :
    DrS2 w ((wr.alloc (.cells #[] 2)).setCell ⟨bd, 1, none⟩ (.slice (some ⟨wr.heap.size, 0, none⟩) 0 0)) g cv n br bd P (some ⟨wr.heap.size, 0, none⟩) 0 0 s := by
  have ho := h.ord
  have hb : Below wr.heap.size wr (wr.alloc (.cells #[] 2)) := (Below.refl _ _).alloc (Nat.le_refl _) _
  have hk := h.kept hb
  have hsz : ((wr.alloc (.cells #[] 2)).setCell ⟨bd, 1, none⟩ (.slice (some ⟨wr.heap.size, 0, none⟩) 0 0)).heap.size = wr.heap.size + 1 := by simp [World.setCell]
  have hc : Chg (wr.alloc (.cells #[] 2)) ((wr.alloc (.cells #[] 2)).setCell ⟨bd, 1, none⟩ (.slice (some ⟨wr.heap.size, 0, none⟩) 0 0)) (· = bd) := (Chg.refl _ (· = bd)).setCell (a := ⟨bd, 1, none⟩) rfl _
  have hg := h.chg.size
  refine ⟨⟨ho.1, ho.2.1, ho.2.2.1, by omega⟩, hk.src.by hc (by show ¬ g = bd; omega), ⟨hc.os.trans hk.chg.os, hc.tape.trans hk.chg.tape, hc.output.trans hk.chg.output, by rw [hsz]; omega, fun k hk' hne => (hc.block k (by simp; omega) (by show ¬ k = bd; omega)).trans (hk.chg.block k hk' hne)⟩, ?_, hc.own hk.res (by show ¬ br = bd; omega), ⟨Or.inr ⟨wr.heap.size, rfl, ⟨by omega, by omega, by omega⟩, hc.own (Own.empty wr 2 _) (by show ¬ wr.heap.size = bd; omega)⟩⟩⟩
  exact (hk.box.set 1 _).congr fun i hi => by
    have h3 : i = 0 ∨ i = 1 := by omega
    rcases h3 with rfl | rfl <;> simp

set_option maxRecDepth 100000 in
set_option maxHeartbeats 4000000 in
theorem sPrimeD_c (g n : Nat) (cv : Value) (B : Nat → Int) (w : World) (hs : Src w g cv n) (hB : ∀ W, Chg w W (· = g) → Byt W cv n B) :
    Calls Try.prog 132 #[.pointer (some ⟨g, 0, none⟩)] w fun e w' => ∃ P : Int, (3 ≤ P ∧ P ≤ 13) ∧ e = .returned (.int .i64 P) ∧ Drew w w' g cv n := by
  have hgl := hs.lt
  have h8 := ints8 w 2 3 5 7 11 13 3 5 7
  have hb8 : Below w.heap.size w (w.alloc (.cells #[.int .i64 3, .int .i64 5, .int .i64 7, .int .i64 11, .int .i64 13, .int .i64 3, .int .i64 5, .int .i64 7] 2)) := (Below.refl _ _).alloc (Nat.le_refl _) _
  have hp8 : Calls Try.prog 76 #[.pointer (some ⟨g, 0, none⟩), .slice (some ⟨w.heap.size, 0, none⟩) 8 8] (w.alloc (.cells #[.int .i64 3, .int .i64 5, .int .i64 7, .int .i64 11, .int .i64 13, .int .i64 3, .int .i64 5, .int .i64 7] 2)) fun e w' => ∃ P : Int, (3 ≤ P ∧ P ≤ 13) ∧ e = .returned (.int .i64 P) ∧ Drew w w' g cv n := by
    refine (sPick_c g n cv _ B _ 8 _ (hs.kept hb8) (hB _ (Chg.of_below hb8 _)) (fun W hc => h8.chgInts hc (by omega)) (by omega)).mono fun e w' h => ?_
    obtain ⟨j, hj, he, hd⟩ := h
    have h3 : j = 0 ∨ j = 1 ∨ j = 2 ∨ j = 3 ∨ j = 4 ∨ j = 5 ∨ j = 6 ∨ j = 7 := by omega
    refine ⟨_, ?_, he, hd.src, (Chg.of_below hb8 _).trans hd.chg⟩
    rcases h3 with rfl | rfl | rfl | rfl | rfl | rfl | rfl | rfl <;> simp
  have HP8 := Lib.hid hp8
  clear hp8 hb8 h8 hs hB
  go_enter Try.func132, Try.ntmps132
  go_wp2_with fail
  refine HP8.out.mono ?_
  rintro e w1 ⟨P, hP, rfl, hd⟩
  go_wp2
  go_ret
  exact ⟨P, hP, rfl, hd⟩

/-- a space that is drawn -/
structure DrSp (w w' : World) (e : Ending) (g : Nat) (cv : Value) (n : Nat) : Prop where
  out : ∃ (P : Int) (a : Option Addr) (c m : Nat) (s : Nat → Int), e = .returned (dbl P (.slice a m c)) ∧ m ≤ 7 ∧ (0 ≤ P ∧ P ≤ 17) ∧ OI w' w.heap.size w'.heap.size a c m s ∧ Drew w w' g cv n
/-- .. with 1 to 6 squares -/
structure DrSq (w w' : World) (e : Ending) (g : Nat) (cv : Value) (n : Nat) : Prop where
  out : ∃ (P : Int) (a : Option Addr) (c m : Nat) (s : Nat → Int), e = .returned (dbl P (.slice a m c)) ∧ (1 ≤ m ∧ m ≤ 6) ∧ (3 ≤ P ∧ P ≤ 13) ∧ OI w' w.heap.size w'.heap.size a c m s ∧ Drew w w' g cv n

set_option maxRecDepth 100000 in
set_option maxHeartbeats 8000000 in
theorem sAnySp_c (g n : Nat) (cv : Value) (B : Nat → Int) (most : Int) (w : World) (hs : Src w g cv n) (hB : ∀ W, Chg w W (· = g) → Byt W cv n B) (hm : 1 ≤ most ∧ most ≤ 6) :
    Calls Try.prog 75 #[.pointer (some ⟨g, 0, none⟩), .int .i64 most] w fun e w' => DrSq w w' e g cv n := by
  have HB := Lib.hid hB
  have hgl := hs.lt
  obtain ⟨wa, hwa⟩ : ∃ wa, wa = w.alloc (.cells #[.int .i64 0, .slice none 0 0] 26) := ⟨_, rfl⟩
  have hba : Below w.heap.size w wa := by rw [hwa]; exact (Below.refl _ _).alloc (Nat.le_refl _) _
  have hsa : wa.heap.size = w.heap.size + 1 := by rw [hwa]; simp
  have hra : Own wa 26 w.heap.size 2 2 (fun i => if i = 0 then .int .i64 0 else .slice none 0 0) := by rw [hwa]; exact own2 w _ _ _
  have hp5 := sPrimeD_c g n cv B wa (hs.kept hba) (fun W hc => hB W ((Chg.of_below hba _).trans hc))
  rw [hwa] at hp5
  have HP5 := Lib.hid hp5
  have HWA := Lib.hid hwa
  have HRA := Lib.hid hra
  have HBA := Lib.hid hba
  have HSZ := Lib.hid hsa
  clear hwa hra hba hp5 hs hB hsa
  go_enter Try.func75, Try.ntmps75
  go_wp2_with fail
  refine HP5.out.mono ?_
  rintro e w1 ⟨P, hP, rfl, hd1⟩
  rw [← HWA.out] at hd1
  have hsz := HSZ.out
  have hs1 := hd1.chg.size
  obtain ⟨wb, hwb⟩ : ∃ wb, wb = w1.alloc (.cells #[.int .i64 P, .slice none 0 0] 26) := ⟨_, rfl⟩
  have hbb : Below w1.heap.size w1 wb := by rw [hwb]; exact (Below.refl _ _).alloc (Nat.le_refl _) _
  have hsb : wb.heap.size = w1.heap.size + 1 := by rw [hwb]; simp
  have hD0 : DrSt w wb g cv n w.heap.size w1.heap.size P none 0 0 (fun _ => 0) :=
    ⟨⟨hgl, Nat.le_refl _, by omega, by omega⟩, hd1.src.kept hbb, ((Chg.of_below HBA.out _).trans hd1.chg).trans (Chg.of_below hbb _), by rw [hwb]; exact own2 w1 _ _ _, (hd1.chg.own HRA.out (by show ¬ w.heap.size = g; omega)).kept hbb, ⟨Or.inl ⟨rfl, rfl, rfl⟩⟩⟩
  have hp8 : Calls Try.prog 124 #[.pointer (some ⟨g, 0, none⟩), .int .i64 most] wb fun e w' => ∃ x : Int, e = .returned (.int .i64 x) ∧ (0 ≤ x ∧ x < most) ∧ DrSt w w' g cv n w.heap.size w1.heap.size P none 0 0 (fun _ => 0) := (sNext_c g n cv B most wb hD0.src (HB.out _ hD0.chg) (by omega)).mono fun e w' h => by
    obtain ⟨x, h1, h2, _, h3⟩ := h
    exact ⟨x, h1, h2 (by omega), hD0.step h3⟩
  rw [hwb] at hp8
  have HP8 := Lib.hid hp8
  clear hp8 hD0 hsb hbb hwb hs1 hsz hd1 HRA HBA HSZ HP5 HWA
  go_wp2_with fail
  refine HP8.out.mono ?_
  rintro e w2 ⟨K, rfl, hK, hD2⟩
  have HD2 := Lib.hid hD2
  have hwK : IntKind.i64.wrap (1 + K) = 1 + K := wrap_in' _ (by omega)
  clear hD2
  go_wp2_with fail
  go_loopg [7] 20 (fun gg s7 wr => ∃ (kv : Int) (a : Option Addr) (c m : Nat) (s : Nat → Int), gg = 20 - m ∧ s7 = .int .i64 kv ∧ (0 ≤ kv ∧ 1 ≤ kv + m ∧ kv + m ≤ 6) ∧ Hid (DrSt w wr g cv n w.heap.size w1.heap.size P a c m s))
  case atStart => exact ⟨_, none, 0, 0, _, rfl, rfl, by omega, HD2.out⟩
  case round =>
    obtain ⟨kv, a, c, m, s, rfl, rfl, hkv, hD⟩ := hrel
    have ho := hD.out.ord
    have hwk : IntKind.i64.wrap (kv - 1) = kv - 1 := wrap_in' _ (by omega)
    have hwp : IntKind.i64.wrap (P - 1) = P - 1 := wrap_in' _ (by omega)
    clear HD2 HP8 hwK
    by_cases hk0 : 0 < kv
    · have hN2 : Hid (Calls Try.prog 124 #[.pointer (some ⟨g, 0, none⟩), .int .i64 (P - 1)] wr fun e w' => ∃ x : Int, e = .returned (.int .i64 x) ∧ (0 ≤ x ∧ x < P - 1) ∧ DrSt w w' g cv n w.heap.size w1.heap.size P a c m s) := (sNext_c g n cv B (P - 1) wr hD.out.src (HB.out _ hD.out.chg) (by omega)).mono fun e w' h => by
        obtain ⟨x, h1, h2, _, h3⟩ := h
        exact ⟨x, h1, h2 (by omega), hD.out.step h3⟩
      clear ho
      go_wp2_with fail
      refine hN2.out.mono ?_
      rintro e w3 ⟨x, rfl, hx, hD3⟩
      have hwx : IntKind.i64.wrap (1 + x) = 1 + x := wrap_in' _ (by omega)
      have hb4 : Below w3.heap.size w3 (w3.alloc (.cells #[.int .i64 1, .int .i64 (P - 1), .int .i64 (1 + x), .int .i64 1] 2)) := (Below.refl _ _).alloc (Nat.le_refl _) _
      have h4 := ints4 w3 2 1 (P - 1) (1 + x) 1
      have hN3 : Hid (Calls Try.prog 76 #[.pointer (some ⟨g, 0, none⟩), .slice (some ⟨w3.heap.size, 0, none⟩) 4 4] (w3.alloc (.cells #[.int .i64 1, .int .i64 (P - 1), .int .i64 (1 + x), .int .i64 1] 2)) fun e w' => ∃ v : Int, e = .returned (.int .i64 v) ∧ DrSt w w' g cv n w.heap.size w1.heap.size P a c m s) := by
        have hD8 := hD3.kept hb4
        have ho3 := hD3.ord
        refine (sPick_c g n cv _ B _ 4 _ hD8.src (HB.out _ hD8.chg) (fun W hc => h4.chgInts hc (by omega)) (by omega)).mono fun e w' h => ?_
        obtain ⟨j, hj, he, hd⟩ := h
        exact ⟨_, he, hD8.step hd⟩
      clear hD3 hN2 hD h4 hb4
      go_wp2_with fail
      refine hN3.out.mono ?_
      rintro e w4 ⟨v, rfl, hD4⟩
      have hN4 : Hid (Calls Try.prog 124 #[.pointer (some ⟨g, 0, none⟩), .int .i64 10] w4 fun e w' => ∃ x : Int, e = .returned (.int .i64 x) ∧ (0 ≤ x ∧ x < 10) ∧ DrSt w w' g cv n w.heap.size w1.heap.size P a c m s) := (sNext_c g n cv B 10 w4 hD4.src (HB.out _ hD4.chg) (by omega)).mono fun e w' h => by
        obtain ⟨x, h1, h2, _, h3⟩ := h
        exact ⟨x, h1, h2 (by omega), hD4.step h3⟩
      clear hD4 hN3
      go_wp2_with fail
      refine hN4.out.mono ?_
      rintro e w5 ⟨y, rfl, hy, hD5⟩
      have HD3 := Lib.hid hD5
      have ho := hD5.ord
      clear hN4 hD5
      have y1 := HD3.out.box.cell (show 1 < 2 by omega)
      simp only [if_neg (show ¬ (1 : Nat) = 0 by omega)] at y1
      have hl := HD3.out.lst
      by_cases hy0 : y = 0
      · subst hy0
        go_wp2_with (at_builtin; refine wpList_pushI w5 rfl _ _ rfl (by omega) hl (by omega) 0 rfl rfl ?_; intro a' c' w6 hl4 hc4; have hbx4 := hc4.own HD3.out.box (fun e => by have := e.1; omega); have z4 := hbx4.cell (show 1 < 2 by omega); have zf4 := hbx4.frozen 1)
        go_roundg (20 - (m + 1))
        case measure => omega
        case rel => exact ⟨kv - 1, a', c', m + 1, _, rfl, by go_num, by omega, HD3.out.push hc4 hl4⟩
      · have hy1 : ¬ y = 0 := hy0
        go_wp2_with (at_builtin; refine wpList_pushI w5 rfl _ _ rfl (by omega) hl (by omega) v rfl rfl ?_; intro a' c' w6 hl4 hc4; have hbx4 := hc4.own HD3.out.box (fun e => by have := e.1; omega); have z4 := hbx4.cell (show 1 < 2 by omega); have zf4 := hbx4.frozen 1)
        go_roundg (20 - (m + 1))
        case measure => omega
        case rel => exact ⟨kv - 1, a', c', m + 1, _, rfl, by go_num, by omega, HD3.out.push hc4 hl4⟩
    · obtain rfl : kv = 0 := by omega
      have y0 := hD.out.box.cell (show 0 < 2 by omega)
      have y1 := hD.out.box.cell (show 1 < 2 by omega)
      have r0 := hD.out.res.cell (show 0 < 2 by omega)
      have r1 := hD.out.res.cell (show 1 < 2 by omega)
      have q0 := hD.out.res.frozen 0
      have q1 := hD.out.res.frozen 1
      simp only [if_pos, if_neg (show ¬ (1 : Nat) = 0 by omega)] at y0 y1 r0 r1
      have hres := (hD.out.res.set 0 (.int .i64 P)).set 1 (.slice a m c)
      have c0 := hres.cell (show 0 < 2 by omega)
      have c1 := hres.cell (show 1 < 2 by omega)
      simp at c0 c1
      clear hres
      go_wp2
      refine bodyPost_ret (by simp [results, Try.results75, go_sem, c0, c1]; try rfl) rfl ?_
      exact ⟨P, a, c, m, s, rfl, by omega, by omega, (hD.out.fin _ _).1, (hD.out.fin _ _).2⟩

theorem DrSq.all {w w' : World} {e : Ending} {g : Nat} {cv : Value} {n : Nat} (h : DrSq w w' e g cv n) : DrSp w w' e g cv n := by
  obtain ⟨P, a, c, m, s, h1, h2, h3, h4⟩ := h.out
  exact ⟨P, a, c, m, s, h1, by omega, by omega, h4⟩

set_option maxRecDepth 100000 in
set_option maxHeartbeats 4000000 in
theorem sDrawSp_c (g n : Nat) (cv : Value) (B : Nat → Int) (w : World) (hs : Src w g cv n) (hB : ∀ W, Chg w W (· = g) → Byt W cv n B) :
    Calls Try.prog 123 #[.pointer (some ⟨g, 0, none⟩)] w fun e w' => DrSq w w' e g cv n := by
  have HB := Lib.hid hB
  have hgl := hs.lt
  obtain ⟨wa, hwa⟩ : ∃ wa, wa = w.alloc (.cells #[.int .i64 0, .slice none 0 0] 26) := ⟨_, rfl⟩
  have hba : Below w.heap.size w wa := by rw [hwa]; exact (Below.refl _ _).alloc (Nat.le_refl _) _
  have hsa : wa.heap.size = w.heap.size + 1 := by rw [hwa]; simp
  have hra : Own wa 26 w.heap.size 2 2 (fun i => if i = 0 then .int .i64 0 else .slice none 0 0) := by rw [hwa]; exact own2 w _ _ _
  have h5 := ints5 wa 2 2 3 3 4 6
  have hb5 : Below wa.heap.size wa (wa.alloc (.cells #[.int .i64 2, .int .i64 3, .int .i64 3, .int .i64 4, .int .i64 6] 2)) := (Below.refl _ _).alloc (Nat.le_refl _) _
  have hp5 : Calls Try.prog 76 #[.pointer (some ⟨g, 0, none⟩), .slice (some ⟨wa.heap.size, 0, none⟩) 5 5] (wa.alloc (.cells #[.int .i64 2, .int .i64 3, .int .i64 3, .int .i64 4, .int .i64 6] 2)) fun e w' => ∃ P : Int, (1 ≤ P ∧ P ≤ 6) ∧ e = .returned (.int .i64 P) ∧ Drew w w' g cv n ∧ Own w' 26 w.heap.size 2 2 (fun i => if i = 0 then .int .i64 0 else .slice none 0 0) ∧ w.heap.size < w'.heap.size := by
    have hb := hba.trans (hb5.mono hba.size)
    refine (sPick_c g n cv _ B _ 5 _ (hs.kept hb) (hB _ (Chg.of_below hb _)) (fun W hc => h5.chgInts hc (by omega)) (by omega)).mono fun e w' h => ?_
    obtain ⟨j, hj, he, hd⟩ := h
    have h3 : j = 0 ∨ j = 1 ∨ j = 2 ∨ j = 3 ∨ j = 4 := by omega
    refine ⟨_, ?_, he, ⟨hd.src, (Chg.of_below hb _).trans hd.chg⟩, hd.chg.own (hra.kept hb5) (by show ¬ w.heap.size = g; omega), by have := hd.chg.size; have := hb5.size; omega⟩
    rcases h3 with rfl | rfl | rfl | rfl | rfl <;> simp
  have hop : ∀ W, Drew w W g cv n → Own W 26 w.heap.size 2 2 (fun i => if i = 0 then .int .i64 0 else .slice none 0 0) → w.heap.size < W.heap.size → ∀ K : Int, 1 ≤ K → K ≤ 6 → Calls Try.prog 75 #[.pointer (some ⟨g, 0, none⟩), .int .i64 K] W fun e w' => DrSq W w' e g cv n ∧ Own w' 26 w.heap.size 2 2 (fun i => if i = 0 then .int .i64 0 else .slice none 0 0) :=
    fun W hd hO hl K h1 h2 => (sAnySp_c g n cv B K W hd.src (fun W' hc => hB W' (hd.chg.trans hc)) ⟨h1, h2⟩).mono fun e w' h => by
      refine ⟨h, ?_⟩
      obtain ⟨_, _, _, _, _, _, _, _, _, h5⟩ := h.out
      exact h5.chg.own hO (by show ¬ w.heap.size = g; omega)
  rw [hsa, hwa] at hp5
  have HP5 := Lib.hid hp5
  have HOP := Lib.hid hop
  clear hwa hra hba hp5 hs hB hsa hop h5 hb5
  go_enter Try.func123, Try.ntmps123
  go_wp2_with fail
  refine HP5.out.mono ?_
  rintro e w1 ⟨P, hP, rfl, hd1, hO1, hl1⟩
  have HA := Lib.hid (HOP.out w1 hd1 hO1 hl1 P hP.1 hP.2)
  have HD1 := Lib.hid hd1
  clear HOP HP5 hd1 hO1
  go_wp2_with fail
  refine HA.out.mono ?_
  rintro e w2 ⟨hq, hO2⟩
  obtain ⟨P', a, c, m, s, rfl, hm, hPP, hL, hd2⟩ := hq.out
  have r0 := hO2.cell (show 0 < 2 by omega)
  have r1 := hO2.cell (show 1 < 2 by omega)
  have q0 := hO2.frozen 0
  have q1 := hO2.frozen 1
  simp only [if_pos, if_neg (show ¬ (1 : Nat) = 0 by omega)] at r0 r1
  have hres := (hO2.set 0 (.int .i64 P')).set 1 (.slice a m c)
  have c0 := hres.cell (show 0 < 2 by omega)
  have c1 := hres.cell (show 1 < 2 by omega)
  simp at c0 c1
  have hc : Chg w2 ((w2.setCell ⟨w.heap.size, 0, none⟩ (.int .i64 P')).setCell ⟨w.heap.size, 1, none⟩ (.slice a m c)) (· = w.heap.size) := ((Chg.refl w2 (· = w.heap.size)).setCell (a := ⟨w.heap.size, 0, none⟩) rfl (.int .i64 P')).setCell (a := ⟨w.heap.size, 1, none⟩) rfl (.slice a m c)
  have hfin : Hid (DrSq w ((w2.setCell ⟨w.heap.size, 0, none⟩ (.int .i64 P')).setCell ⟨w.heap.size, 1, none⟩ (.slice a m c)) (.returned (dbl P' (.slice a m c))) g cv n) := by
    have hsz := hc.size
    have hs2 := hd2.chg.size
    have h12 := HD1.out.chg.trans hd2.chg
    refine ⟨P', a, c, m, s, rfl, hm, hPP, ((hL.by hc fun k e => ?_).low (by omega)).high hsz, hd2.src.by hc (by show ¬ g = w.heap.size; omega), hc.os.trans h12.os, hc.tape.trans h12.tape, hc.output.trans h12.output, by have := h12.size; omega, fun k hk hne => (hc.block k (by have := h12.size; omega) (by show ¬ k = w.heap.size; omega)).trans (h12.block k hk hne)⟩
    have e : k = w.heap.size := e
    omega
  clear hres hL hd2 hO2 HA HD1 HB hc
  go_wp2
  refine bodyPost_ret (by simp [results, Try.results123, go_sem, c0, c1]; try rfl) rfl ?_
  exact hfin.out

set_option maxRecDepth 100000 in
set_option maxHeartbeats 8000000 in
theorem sSpoilSp_c (g n : Nat) (cv : Value) (B : Nat → Int) (w : World) (hs : Src w g cv n) (hB : ∀ W, Chg w W (· = g) → Byt W cv n B) :
    Calls Try.prog 61 #[.pointer (some ⟨g, 0, none⟩)] w fun e w' => DrSp w w' e g cv n := by
  have HB := Lib.hid hB
  have hgl := hs.lt
  obtain ⟨wa, hwa⟩ : ∃ wa, wa = w.alloc (.cells #[.int .i64 0, .slice none 0 0] 26) := ⟨_, rfl⟩
  have hba : Below w.heap.size w wa := by rw [hwa]; exact (Below.refl _ _).alloc (Nat.le_refl _) _
  have hsa : wa.heap.size = w.heap.size + 1 := by rw [hwa]; simp
  have hra : Own wa 26 w.heap.size 2 2 (fun i => if i = 0 then .int .i64 0 else .slice none 0 0) := by rw [hwa]; exact own2 w _ _ _
  have hp5 := sDrawSp_c g n cv B wa (hs.kept hba) (fun W hc => hB W ((Chg.of_below hba _).trans hc))
  rw [hwa] at hp5
  have HP5 := Lib.hid hp5
  have HWA := Lib.hid hwa
  have HRA := Lib.hid hra
  have HBA := Lib.hid hba
  have HSZ := Lib.hid hsa
  clear hwa hra hba hp5 hs hB hsa
  go_enter Try.func61, Try.ntmps61
  go_wp2_with fail
  refine HP5.out.mono ?_
  rintro e w1 ⟨P, a, c, m, s, rfl, hm6, hP, hL1, hd1⟩
  rw [← HWA.out] at hd1 hL1
  have hsz := HSZ.out
  have hs1 := hd1.chg.size
  obtain ⟨wb, hwb⟩ : ∃ wb, wb = w1.alloc (.cells #[.int .i64 P, .slice a m c] 26) := ⟨_, rfl⟩
  have hbb : Below w1.heap.size w1 wb := by rw [hwb]; exact (Below.refl _ _).alloc (Nat.le_refl _) _
  have hsb : wb.heap.size = w1.heap.size + 1 := by rw [hwb]; simp
  have hD0 : DrS2 w wb g cv n w.heap.size w1.heap.size P a c m s := by
    refine ⟨⟨hgl, Nat.le_refl _, by omega, by omega⟩, hd1.src.kept hbb, ((Chg.of_below HBA.out _).trans hd1.chg).trans (Chg.of_below hbb _), by rw [hwb]; exact own2 w1 _ _ _, (hd1.chg.own HRA.out (by show ¬ w.heap.size = g; omega)).kept hbb, ?_⟩
    rcases hL1.out with h0 | ⟨q, h1, h2, hO⟩
    · exact ⟨Or.inl h0⟩
    · exact ⟨Or.inr ⟨q, h1, ⟨by omega, by omega, by omega⟩, hO.kept hbb⟩⟩
  have hp6 : Calls Try.prog 124 #[.pointer (some ⟨g, 0, none⟩), .int .i64 40] wb fun e w' => ∃ x : Int, e = .returned (.int .i64 x) ∧ (0 ≤ x ∧ x < 40) ∧ DrS2 w w' g cv n w.heap.size w1.heap.size P a c m s := (sNext_c g n cv B 40 wb hD0.src (HB.out _ hD0.chg) (by omega)).mono fun e w' h => by
    obtain ⟨x, h1, h2, _, h3⟩ := h
    exact ⟨x, h1, h2 (by omega), hD0.step h3⟩
  rw [hwb] at hp6
  have HP6 := Lib.hid hp6
  clear hp6 hD0 hsb hbb hwb hs1 hsz hd1 HRA HBA HSZ HP5 HWA hL1
  go_wp2_with fail
  refine HP6.out.mono ?_
  rintro e w2 ⟨x, rfl, hx, hD2⟩
  have HD2 := Lib.hid hD2
  have ho := hD2.ord
  clear hD2 HP6
  by_cases hx0 : x = 0
  · subst hx0
    obtain ⟨wc, hwc⟩ : ∃ wc, wc = w2.alloc (.cells #[.int .i64 4, .int .i64 1, .int .i64 17, .int .i64 0] 2) := ⟨_, rfl⟩
    have hbc : Below w2.heap.size w2 wc := by rw [hwc]; exact (Below.refl _ _).alloc (Nat.le_refl _) _
    have h4 : Own wc 2 w2.heap.size 4 4 (fun i => .int .i64 (if i = 0 then 4 else if i = 1 then 1 else if i = 2 then 17 else 0)) := by rw [hwc]; exact ints4 w2 _ _ _ _ _
    have hp7 : Calls Try.prog 76 #[.pointer (some ⟨g, 0, none⟩), .slice (some ⟨w2.heap.size, 0, none⟩) 4 4] wc fun e w' => ∃ K : Int, (0 ≤ K ∧ K ≤ 17) ∧ e = .returned (.int .i64 K) ∧ DrS2 w w' g cv n w.heap.size w1.heap.size P a c m s := by
      have hD8 := HD2.out.kept hbc
      refine (sPick_c g n cv _ B _ 4 _ hD8.src (HB.out _ hD8.chg) (fun W hc => h4.chgInts hc (by omega)) (by omega)).mono fun e w' h => ?_
      obtain ⟨j, hj, he, hd⟩ := h
      have h3 : j = 0 ∨ j = 1 ∨ j = 2 ∨ j = 3 := by omega
      refine ⟨_, ?_, he, hD8.step hd⟩
      rcases h3 with rfl | rfl | rfl | rfl <;> simp
    rw [hwc] at hp7
    have HP7 := Lib.hid hp7
    clear hp7 hbc h4 hwc ho
    go_wp2_with fail
    refine HP7.out.mono ?_
    rintro e w3 ⟨K, hK, rfl, hD3⟩
    have z3 := hD3.box.cell (show 0 < 2 by omega)
    have zf := hD3.box.frozen 0
    have hD4 := Lib.hid (hD3.prime K)
    clear hD3 HP7 HD2
    have y0 := hD4.out.box.cell (show 0 < 2 by omega)
    have y1 := hD4.out.box.cell (show 1 < 2 by omega)
    have r0 := hD4.out.res.cell (show 0 < 2 by omega)
    have r1 := hD4.out.res.cell (show 1 < 2 by omega)
    have q0 := hD4.out.res.frozen 0
    have q1 := hD4.out.res.frozen 1
    simp only [if_pos, if_neg (show ¬ (1 : Nat) = 0 by omega)] at y0 y1 r0 r1
    have hres := (hD4.out.res.set 0 (.int .i64 K)).set 1 (.slice a m c)
    have c0 := hres.cell (show 0 < 2 by omega)
    have c1 := hres.cell (show 1 < 2 by omega)
    simp at c0 c1
    clear hres
    go_wp2
    refine bodyPost_ret (by simp [results, Try.results61, go_sem, c0, c1]; try rfl) rfl ?_
    exact ⟨K, a, c, m, s, rfl, by omega, by omega, (hD4.out.fin _ _).1, (hD4.out.fin _ _).2⟩
  · by_cases hx1 : x = 1
    · subst hx1
      -- the list is not empty: it lies in a block
      have hlt := HD2.out.lst
      rcases hlt.out with ⟨_, h0, _⟩ | ⟨q, rfl, hq, hOq⟩
      · omega
      have hDd := HD2.out.kept (drewB w2)
      have hsd : w2.drew.heap.size = w2.heap.size := rfl
      obtain ⟨wc, hwc⟩ : ∃ wc, wc = (w2.alloc (.cells #[.int .i64 (-1), .int .i64 P] 2)).drew := ⟨_, rfl⟩
      have hbc : Below w2.drew.heap.size w2.drew wc := by rw [hwc]; exact ((Below.refl _ w2.drew).alloc (Nat.le_refl _) (.cells #[.int .i64 (-1), .int .i64 P] 2))
      have h4 : Own wc 2 w2.heap.size 2 2 (fun i => .int .i64 (if i = 0 then -1 else P)) := by rw [hwc]; exact (ints2 w2 _ _ _).drew
      have hD8 := hDd.kept hbc
      have hp7 : Calls Try.prog 76 #[.pointer (some ⟨g, 0, none⟩), .slice (some ⟨w2.heap.size, 0, none⟩) 2 2] wc fun e w' => ∃ K : Int, e = .returned (.int .i64 K) ∧ DrS2 w w' g cv n w.heap.size w1.heap.size P (some ⟨q, 0, none⟩) c m s := by
        refine (sPick_c g n cv _ B _ 2 _ hD8.src (HB.out _ hD8.chg) (fun W hc => h4.chgInts hc (by omega)) (by omega)).mono fun e w' h => ?_
        obtain ⟨j, hj, he, hd⟩ := h
        exact ⟨_, he, hD8.step hd⟩
      rw [hwc] at hp7 hD8
      have HP7 := Lib.hid hp7
      have y0 := hDd.box.cell (show 0 < 2 by omega)
      have y1 := hDd.box.cell (show 1 < 2 by omega)
      have y2 := hD8.box.cell (show 1 < 2 by omega)
      have i1 : (0 : Int) < (m : Int) := by omega
      have i2 : 0 < m := by omega
      simp only [if_pos, if_neg (show ¬ (1 : Nat) = 0 by omega)] at y0 y1 y2
      clear hp7 hbc h4 hwc ho hDd hD8 hsd HD2 hx0 hlt hOq
      go_wp2_with fail
      go_region_law (first
        | (go_simp; go_at_call 76; refine HP7.out.mono ?_; rintro e w5 ⟨x5, rfl, hD5⟩; have HD5 := Lib.hid hD5; have z5 := hD5.box.cell (show 1 < 2 by omega); simp only [if_neg (show ¬ (1 : Nat) = 0 by omega)] at z5; obtain ⟨zf5, zc5⟩ := hD5.at0 hm6.1; clear hD5))
      all_goals have hD6 := Lib.hid (HD5.out.first hm6.1 x5)
      all_goals clear HD5 z5 y0 y1 y2 HP7 zf5 zc5
      all_goals
        (have y0 := hD6.out.box.cell (show 0 < 2 by omega)
         have y1 := hD6.out.box.cell (show 1 < 2 by omega)
         have r0 := hD6.out.res.cell (show 0 < 2 by omega)
         have r1 := hD6.out.res.cell (show 1 < 2 by omega)
         have q0 := hD6.out.res.frozen 0
         have q1 := hD6.out.res.frozen 1
         simp only [if_pos, if_neg (show ¬ (1 : Nat) = 0 by omega)] at y0 y1 r0 r1
         have hres := (hD6.out.res.set 0 (.int .i64 P)).set 1 (.slice (some ⟨q, 0, none⟩) m c)
         have c0 := hres.cell (show 0 < 2 by omega)
         have c1 := hres.cell (show 1 < 2 by omega)
         simp at c0 c1
         clear hres
         go_wp2
         refine bodyPost_ret (by simp [results, Try.results61, go_sem, c0, c1]; try rfl) rfl ?_
         exact ⟨P, (some ⟨q, 0, none⟩), c, m, _, rfl, by omega, by omega, (hD6.out.fin _ _).1, (hD6.out.fin _ _).2⟩)
    · by_cases hx2 : x = 2
      · subst hx2
        clear ho hx0 hx1
        have y1 := HD2.out.box.cell (show 1 < 2 by omega)
        have zf := HD2.out.box.frozen 1
        have hD6 := Lib.hid HD2.out.none0
        have z6 := (HD2.out.kept ((Below.refl _ _).alloc (Nat.le_refl _) (.cells #[] 2))).box
        have z7 := z6.cell (show 1 < 2 by omega)
        have z8 := z6.frozen 1
        clear z6 HD2
        have y0 := hD6.out.box.cell (show 0 < 2 by omega)
        have y1 := hD6.out.box.cell (show 1 < 2 by omega)
        have r0 := hD6.out.res.cell (show 0 < 2 by omega)
        have r1 := hD6.out.res.cell (show 1 < 2 by omega)
        have q0 := hD6.out.res.frozen 0
        have q1 := hD6.out.res.frozen 1
        simp only [if_pos, if_neg (show ¬ (1 : Nat) = 0 by omega)] at y0 y1 r0 r1
        have hres := (hD6.out.res.set 0 (.int .i64 P)).set 1 (.slice (some ⟨w2.heap.size, 0, none⟩) 0 0)
        have c0 := hres.cell (show 0 < 2 by omega)
        have c1 := hres.cell (show 1 < 2 by omega)
        simp at c0 c1
        clear hres
        go_wp2
        refine bodyPost_ret (by simp [results, Try.results61, go_sem, c0, c1]; try rfl) rfl ?_
        exact ⟨P, (some ⟨w2.heap.size, 0, none⟩), 0, 0, s, rfl, by omega, by omega, (hD6.out.fin _ _).1, (hD6.out.fin _ _).2⟩
      · by_cases hx3 : x = 3
        · subst hx3
          clear ho hx0 hx1 hx2
          go_wp2_with fail
          go_loopg [] (8 - m) (fun gg wr => ∃ (a : Option Addr) (c m : Nat) (s : Nat → Int), gg = 8 - m ∧ m ≤ 7 ∧ Hid (DrS2 w wr g cv n w.heap.size w1.heap.size P a c m s))
          case atStart => exact ⟨a, c, m, s, rfl, by omega, HD2.out⟩
          case round =>
            obtain ⟨a, c, m, s, rfl, hm5, hD⟩ := hrel
            have ho := hD.out.ord
            clear HD2 hm6
            have y1 := hD.out.box.cell (show 1 < 2 by omega)
            simp only [if_neg (show ¬ (1 : Nat) = 0 by omega)] at y1
            by_cases hlt : m < 7
            · have hl := hD.out.lst
              go_wp2_with (at_builtin; refine wpList_pushJ wr rfl _ _ rfl (lo := w.heap.size) (br := w.heap.size) (bd := w1.heap.size) (by omega) hl (by omega) 1 rfl rfl ?_; intro a' c' w4 hl4 hc4; have hbx4 := hc4.own hD.out.box (fun e => e.2.2 rfl); have z4 := hbx4.cell (show 1 < 2 by omega); have zf4 := hbx4.frozen 1)
              go_roundg (8 - (m + 1))
              case measure => omega
              case rel => exact ⟨a', c', m + 1, _, rfl, by omega, hD.out.push hc4 hl4⟩
            · clear ho y1
              have y0 := hD.out.box.cell (show 0 < 2 by omega)
              have y1 := hD.out.box.cell (show 1 < 2 by omega)
              have r0 := hD.out.res.cell (show 0 < 2 by omega)
              have r1 := hD.out.res.cell (show 1 < 2 by omega)
              have q0 := hD.out.res.frozen 0
              have q1 := hD.out.res.frozen 1
              simp only [if_pos, if_neg (show ¬ (1 : Nat) = 0 by omega)] at y0 y1 r0 r1
              have hres := (hD.out.res.set 0 (.int .i64 P)).set 1 (.slice a m c)
              have c0 := hres.cell (show 0 < 2 by omega)
              have c1 := hres.cell (show 1 < 2 by omega)
              simp at c0 c1
              clear hres
              go_wp2
              refine bodyPost_ret (by simp [results, Try.results61, go_sem, c0, c1]; try rfl) rfl ?_
              exact ⟨P, a, c, m, s, rfl, by omega, by omega, (hD.out.fin _ _).1, (hD.out.fin _ _).2⟩
        · have hn0 : ¬ x = 0 := hx0
          clear ho
          have y0 := HD2.out.box.cell (show 0 < 2 by omega)
          have y1 := HD2.out.box.cell (show 1 < 2 by omega)
          have r0 := HD2.out.res.cell (show 0 < 2 by omega)
          have r1 := HD2.out.res.cell (show 1 < 2 by omega)
          have q0 := HD2.out.res.frozen 0
          have q1 := HD2.out.res.frozen 1
          simp only [if_pos, if_neg (show ¬ (1 : Nat) = 0 by omega)] at y0 y1 r0 r1
          have hres := (HD2.out.res.set 0 (.int .i64 P)).set 1 (.slice a m c)
          have c0 := hres.cell (show 0 < 2 by omega)
          have c1 := hres.cell (show 1 < 2 by omega)
          simp at c0 c1
          clear hres
          go_wp2
          refine bodyPost_ret (by simp [results, Try.results61, go_sem, c0, c1]; try rfl) rfl ?_
          exact ⟨P, a, c, m, s, rfl, by omega, by omega, (HD2.out.fin _ _).1, (HD2.out.fin _ _).2⟩

end Go.Proofs.Ytnkflgigbielgaa
