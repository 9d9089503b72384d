/-
  ParseSpace, the reference's. Conditions: the text's size, and that the library's variables read as their text lays them.
-/
import Derived.Test.YtejbigdebjcomaaDoorTP3
import Derived.Test.YtejbigdebjcomaaDoorLD2
set_option linter.unusedVariables false
set_option linter.unusedSimpArgs false
set_option maxRecDepth 100000
namespace Go.Proofs.YtejbigdebjcomaaDoor
open Go.RowKit


theorem ps_splL {T : List UInt8} {p : Int} {n : Nat} {s : Nat → Int} (h : PsOk T p n s) : splL 58 T = [Lib.itoa p, wordsR 32 (ctxs p s n)] := by
  rw [← h.tx, txtL_eq]; exact splL_two (itoa_no (by decide) (by decide)) words_no

theorem ps_spl32 {p : Int} {n : Nat} {s : Nat → Int} : splL 32 (wordsR 32 (ctxs p s n)) = [] :: ctxs p s n := splL_words (ctxs_no (by decide) (by decide))


theorem of_strB {T : ByteArray} {l : List UInt8} (h : T.data.toList = l) : T = strB l := by
  rw [← h]; unfold strB
  apply ByteArray.ext
  simp

theorem itoa1 (n : Nat) (h : n < 10) : Lib.itoa (n : Int) = [UInt8.ofNat (48 + n)] := by
  unfold Lib.itoa; rw [if_neg (by omega), Int.toNat_natCast, Lib.decDigits, dif_pos h]

theorem itoa2 (n : Nat) (h : n < 10) : Lib.itoa ((10 + n : Nat) : Int) = [49, UInt8.ofNat (48 + n)] := by
  unfold Lib.itoa
  rw [if_neg (by omega), Int.toNat_natCast, Lib.decDigits, dif_neg (by omega), show (10 + n) / 10 = 1 by omega, show (10 + n) % 10 = n by omega, Lib.decDigits, dif_pos (by omega)]; rfl

theorem okV1 (b : UInt8) (h : 48 ≤ b.toNat ∧ b.toNat ≤ 57) : OkV (strB [b]) := ⟨Nat.le_refl _, by show 1 ≤ 9; omega, fun h => absurd h (by show ¬ 1 < 1; omega), fun i hi => by
  have hi : i < 1 := hi
  obtain rfl : i = 0 := by omega
  exact h⟩

theorem okV2 (b : UInt8) (h : 48 ≤ b.toNat ∧ b.toNat ≤ 57) : OkV (strB [49, b]) := ⟨by show 1 ≤ 2; omega, by show 2 ≤ 9; omega, fun _ => by show ¬ (49 : UInt8) = 48; decide, fun i hi => by
  have hi : i < 2 := hi
  have h2 : i = 0 ∨ i = 1 := by omega
  rcases h2 with rfl | rfl
  · exact (by decide : 48 ≤ (49 : UInt8).toNat ∧ (49 : UInt8).toNat ≤ 57)
  · exact h⟩

theorem primeB_five {p : Int} (h : primeB p = true) : p = 3 ∨ p = 5 ∨ p = 7 ∨ p = 11 ∨ p = 13 := by
  unfold primeB at h
  simp only [Bool.or_eq_true, beq_iff_eq] at h
  omega

theorem valZ_prime {p : Int} {T : ByteArray} (hp : primeB p = true) (hT : T.data.toList = Lib.itoa p) : valZ T = p := by
  have hb := primeB_bd hp
  have hv : ((valD T.data.toList : Nat) : Int) = p := by
    rw [hT]; unfold Lib.itoa; rw [if_neg (by omega), valD_dec (p.toNat + 1) _ (by omega)]; omega
  have hk : OkV T := by
    rcases primeB_five hp with rfl | rfl | rfl | rfl | rfl
    · rw [of_strB (hT.trans (itoa1 3 (by omega)))]; exact okV1 _ (by decide)
    · rw [of_strB (hT.trans (itoa1 5 (by omega)))]; exact okV1 _ (by decide)
    · rw [of_strB (hT.trans (itoa1 7 (by omega)))]; exact okV1 _ (by decide)
    · rw [of_strB (hT.trans (itoa2 1 (by omega)))]; exact okV2 _ (by decide)
    · rw [of_strB (hT.trans (itoa2 3 (by omega)))]; exact okV2 _ (by decide)
  rw [valZ_yes hk, hv]


/-- what ParseSpace hands back -/
structure PsR (w w' : World) (e : Ending) (T : List UInt8) : Prop where
  bel : Below w.heap.size w w'
  out : (∃ p a c n s, e = .returned (.tuple #[dbl p (.slice a n c), .int .i64 0]) ∧ OI w' w.heap.size w'.heap.size a c n s ∧ PsOk T p n s) ∨ (e = .returned (.tuple #[dbl 0 (.slice none 0 0), .int .i64 6]) ∧ ∀ p n s, ¬ PsOk T p n s)


/-- a space's box -/
def box2 (p v : Value) : Nat → Value := fun i => if i = 0 then p else v

theorem own_box (w : World) (e : TypeId) (p v : Value) : Own (w.alloc (.cells #[p, v] e)) e w.heap.size 2 2 (box2 p v) :=
  Own.new w e #[p, v] (box2 p v) (by simp) fun i hi => by
    have h : i = 0 ∨ i = 1 := by simp at hi; omega
    rcases h with rfl | rfl <;> rfl

theorem Own.box0 {w : World} {e : TypeId} {g : Nat} {p v : Value} (h : Own w e g 2 2 (box2 p v)) : w.cell? ⟨g, 0, none⟩ = some p ∧ w.cell? ⟨g, 1, none⟩ = some v := ⟨h.cell (by omega), h.cell (by omega)⟩

theorem box_store {w W : World} {e : TypeId} {g : Nat} {p v : Value} (hb : Below w.heap.size w W) (h : Own W e g 2 2 (box2 p v)) (hg : w.heap.size ≤ g) (p' v' : Value) :
    Own ((W.setCell ⟨g, 0, none⟩ p').setCell ⟨g, 1, none⟩ v') e g 2 2 (box2 p' v') ∧ Below w.heap.size w ((W.setCell ⟨g, 0, none⟩ p').setCell ⟨g, 1, none⟩ v') :=
  ⟨((h.set 0 p').set 1 v').congr fun i hi => by
    have h : i = 0 ∨ i = 1 := by omega
    rcases h with rfl | rfl <;> rfl, (hb.setCell (p := ⟨g, 0, none⟩) hg _).setCell (p := ⟨g, 1, none⟩) hg _⟩

/-- the words read so far -/
structure PsL (w wr : World) (b5 B g2 cap G : Nat) (P2 : Nat → ByteArray) (p : Int) (a : Option Addr) (c k : Nat) (X : Nat → Int) : Prop where
  bel : Below w.heap.size w wr
  sz : B ≤ wr.heap.size
  res : Own wr 24 w.heap.size 2 2 (box2 (.int .i64 0) (.slice none 0 0))
  box : Own wr 24 b5 2 2 (box2 (.int .i64 p) (.slice a k c))
  wds : Own wr 9 g2 cap (G + 1) (fun i => .string (P2 i))
  lst : OI wr B wr.heap.size a c k X

theorem PsL.kept {w wr W : World} {b5 B g2 cap G : Nat} {P2 : Nat → ByteArray} {p : Int} {a : Option Addr} {c k : Nat} {X : Nat → Int} (h : PsL w wr b5 B g2 cap G P2 p a c k X) (hb : Below wr.heap.size wr W) : PsL w W b5 B g2 cap G P2 p a c k X :=
  ⟨h.bel.trans (hb.mono h.bel.size), by have := h.sz; have := hb.size; omega, h.res.kept hb, h.box.kept hb, h.wds.kept hb, (h.lst.kept hb).out |>.elim (fun h => ⟨Or.inl h⟩) fun ⟨g, h1, h2, h3⟩ => ⟨Or.inr ⟨g, h1, ⟨h2.1, by have := hb.size; omega⟩, h3⟩⟩⟩

theorem PsL.facts {w wr : World} {b5 B g2 cap G : Nat} {P2 : Nat → ByteArray} {p : Int} {a : Option Addr} {c k : Nat} {X : Nat → Int} (h : PsL w wr b5 B g2 cap G P2 p a c k X) : wr.cell? ⟨w.heap.size, 0, none⟩ = some (.int .i64 0) ∧ wr.cell? ⟨w.heap.size, 1, none⟩ = some (.slice none 0 0) ∧ wr.frozen? ⟨w.heap.size, 0, none⟩ = false ∧ wr.frozen? ⟨w.heap.size, 1, none⟩ = false ∧ wr.cell? ⟨b5, 0, none⟩ = some (.int .i64 p) ∧ wr.cell? ⟨b5, 1, none⟩ = some (.slice a k c) ∧ wr.frozen? ⟨b5, 1, none⟩ = false :=
  ⟨h.res.box0.1, h.res.box0.2, h.res.frozen 0, h.res.frozen 1, h.box.box0.1, h.box.box0.2, h.box.frozen 1⟩

/-- behind an append to the list -/
theorem PsL.push {w wr w' : World} {b5 B g2 cap G : Nat} {P2 : Nat → ByteArray} {p : Int} {a a' : Option Addr} {c c' k : Nat} {X X' : Nat → Int} (h : PsL w wr b5 B g2 cap G P2 p a c k X) (hw : w.heap.size < B) (h5 : b5 < B) (h5w : w.heap.size < b5) (hg : g2 < B) (hg5 : g2 ≠ b5)
    (ho : OI w' B w'.heap.size a' c' (k + 1) X') (hc : Chg wr w' (IV B wr.heap.size)) : PsL w (w'.setCell ⟨b5, 1, none⟩ (.slice a' (k + 1) c')) b5 B g2 cap G P2 p a' c' (k + 1) X' := by
  have hsz := h.sz
  have hs2 := hc.size
  refine ⟨(h.bel.trans (hc.below h.bel.size fun k hk => by have := hk.1; omega)).setCell (p := ⟨b5, 1, none⟩) (by show w.heap.size ≤ b5; omega) _, by show B ≤ (w'.setCell _ _).heap.size; simp [World.setCell]; omega, (hc.own h.res fun e => by have := e.1; omega).setOther (a := ⟨b5, 1, none⟩) (by show w.heap.size ≠ b5; omega) _, ((hc.own h.box fun e => by have := e.1; omega).set 1 _).congr fun i hi => ?_, (hc.own h.wds fun e => by have := e.1; omega).setOther (a := ⟨b5, 1, none⟩) hg5 _, ?_⟩
  · have h : i = 0 ∨ i = 1 := by omega
    rcases h with rfl | rfl <;> rfl
  · have e : (w'.setCell ⟨b5, 1, none⟩ (.slice a' (k + 1) c')).heap.size = w'.heap.size := by simp [World.setCell]
    rw [e]
    rcases ho.out with ⟨_, h2, _⟩ | ⟨g, h1, h2, h3⟩
    · omega
    · exact ⟨Or.inr ⟨g, h1, h2, h3.setOther (a := ⟨b5, 1, none⟩) (by show g ≠ b5; have := h2.1; omega) _⟩⟩

/-- the result laid -/
theorem PsL.done {w wr : World} {b5 B g2 cap G : Nat} {P2 : Nat → ByteArray} {p : Int} {a : Option Addr} {c k : Nat} {X : Nat → Int} (h : PsL w wr b5 B g2 cap G P2 p a c k X) (hw : w.heap.size < B) (p' v' : Value) (W2 : World) (e : (wr.setCell ⟨w.heap.size, 0, none⟩ p').setCell ⟨w.heap.size, 1, none⟩ v' = W2) :
    Below w.heap.size w W2 ∧ W2.cell? ⟨w.heap.size, 0, none⟩ = some p' ∧ W2.cell? ⟨w.heap.size, 1, none⟩ = some v' ∧ OI W2 w.heap.size W2.heap.size a c k X := by
  have hst := box_store h.bel h.res (Nat.le_refl _) p' v'
  have hsz : ((wr.setCell ⟨w.heap.size, 0, none⟩ p').setCell ⟨w.heap.size, 1, none⟩ v').heap.size = wr.heap.size := by simp [World.setCell]
  have ho : OI ((wr.setCell ⟨w.heap.size, 0, none⟩ p').setCell ⟨w.heap.size, 1, none⟩ v') w.heap.size wr.heap.size a c k X := by
    rcases h.lst.out with h1 | ⟨g, h1, h2, h3⟩
    · exact ⟨Or.inl h1⟩
    · exact ⟨Or.inr ⟨g, h1, ⟨by have := h2.1; omega, h2.2⟩, (h3.setOther (a := ⟨w.heap.size, 0, none⟩) (by show g ≠ w.heap.size; have := h2.1; omega) _).setOther (a := ⟨w.heap.size, 1, none⟩) (by show g ≠ w.heap.size; have := h2.1; omega) _⟩⟩
  rw [e] at hst ho hsz
  rw [hsz]
  exact ⟨hst.2, hst.1.box0.1, hst.1.box0.2, ho⟩


theorem spB_congr {p : Int} {n : Nat} {s t : Nat → Int} (h : ∀ i, i < n → s i = t i) (hs : spB p n s = true) : spB p n t = true := by
  have ok := spB_ok hs
  rw [spB_yes ok.prime ⟨ok.n1, ok.n6⟩]
  exact inPB_true fun i hi => decide_eq_true (by have := ok.inp i hi; rw [h i hi] at this; omega)

theorem txtL_congr {p : Int} {s t : Nat → Int} : ∀ {n : Nat}, (∀ i, i < n → s i = t i) → txtL p s n = txtL p t n
  | 0, _ => rfl
  | k + 1, h => by rw [txtL, txtL, txtL_congr fun i hi => h i (by omega), h k (by omega)]

theorem PsOk.congr {T : List UInt8} {p : Int} {n : Nat} {s t : Nat → Int} (h : PsOk T p n s) (he : ∀ i, i < n → s i = t i) : PsOk T p n t := ⟨spB_congr he h.sp, (txtL_congr he).symm.trans h.tx⟩

/-- what the words are of a text that is that of a space -/
theorem ps_words {T : List UInt8} {p v : Int} {n G : Nat} {s : Nat → Int} {H R : ByteArray} {P2 : Nat → ByteArray} (h : PsOk T p n s) (h2 : splL 58 T = [H.data.toList, R.data.toList]) (h3 : splL 32 R.data.toList = (List.range (G + 1)).map fun i => (P2 i).data.toList) (hv : valZ H = v) :
    p = v ∧ n = G ∧ ∀ k, k < n → (P2 (k + 1)).data.toList = ctx p (s k) := by
  rw [ps_splL h] at h2
  obtain ⟨e1, e2⟩ := List.cons.inj h2
  have e2 := (List.cons.inj e2).1
  rw [← e2, ps_spl32] at h3
  have h4 := congrArg List.length h3
  rw [List.length_cons, ctxs_len, List.length_map, List.length_range] at h4
  obtain rfl : n = G := by omega
  refine ⟨(valZ_prime (spB_ok h.sp).prime e1.symm).symm.trans hv, rfl, fun k hk => ?_⟩
  have h5 := congrArg (fun l => l[k + 1]?) h3
  simp only [List.getElem?_cons_succ] at h5
  rw [ctxs_at p s hk, List.getElem?_map, List.getElem?_range (by omega)] at h5
  exact (Option.some.inj h5).symm

/-- the squares as they are read -/
def sqX (P : Nat) (P2 : Nat → ByteArray) : Nat → Int := fun j => (ctxN P (P2 (j + 1)) : Nat)

theorem ps_same {T : List UInt8} {p : Int} {P n G : Nat} {s : Nat → Int} {H R : ByteArray} {P2 : Nat → ByteArray} (h : PsOk T p n s) (h2 : splL 58 T = [H.data.toList, R.data.toList]) (h3 : splL 32 R.data.toList = (List.range (G + 1)).map fun i => (P2 i).data.toList) (hv : valZ H = (P : Int)) :
    (∀ k, k < G → ctxN P (P2 (k + 1)) < P) ∧ PsOk T P G (sqX P P2) := by
  obtain ⟨rfl, rfl, h4⟩ := ps_words h h2 h3 hv
  have ok := spB_ok h.sp
  have hx : ∀ k, k < n → sqX P P2 k = s k := fun k hk => ctxN_at ok.bd.1 (ok.inp k hk) (h4 k hk)
  refine ⟨fun k hk => ?_, h.congr fun i hi => (hx i hi).symm⟩
  have h5 := hx k hk
  have h6 := ok.inp k hk
  unfold sqX at h5
  omega


/-- the halves -/
structure PsH (w W : World) (g1 cap1 : Nat) (H R : ByteArray) : Prop where
  bel : Below w.heap.size w W
  res : Own W 24 w.heap.size 2 2 (box2 (.int .i64 0) (.slice none 0 0))
  hal : Own W 9 g1 cap1 2 (fun i => .string (if i = 0 then H else R))

theorem PsH.kept {w W W' : World} {g1 cap1 : Nat} {H R : ByteArray} (h : PsH w W g1 cap1 H R) (hb : Below W.heap.size W W') : PsH w W' g1 cap1 H R := ⟨h.bel.trans (hb.mono h.bel.size), h.res.kept hb, h.hal.kept hb⟩

theorem PsH.facts {w W : World} {g1 cap1 : Nat} {H R : ByteArray} (h : PsH w W g1 cap1 H R) : W.cell? ⟨w.heap.size, 0, none⟩ = some (.int .i64 0) ∧ W.cell? ⟨w.heap.size, 1, none⟩ = some (.slice none 0 0) ∧ W.frozen? ⟨w.heap.size, 0, none⟩ = false ∧ W.frozen? ⟨w.heap.size, 1, none⟩ = false ∧ W.cell? ⟨g1, 0, none⟩ = some (.string H) ∧ W.cell? ⟨g1, 1, none⟩ = some (.string R) :=
  ⟨h.res.box0.1, h.res.box0.2, h.res.frozen 0, h.res.frozen 1, h.hal.cell (by omega), h.hal.cell (by omega)⟩

theorem PsH.box {w W W' : World} {g1 cap1 : Nat} {H R : ByteArray} (h : PsH w W g1 cap1 H R) (v : Int) (e : W.alloc (.cells #[.int .i64 v, .slice none 0 0] 24) = W') : PsH w W' g1 cap1 H R ∧ Own W' 24 W.heap.size 2 2 (box2 (.int .i64 v) (.slice none 0 0)) ∧ W'.heap.size = W.heap.size + 1 ∧ Below W.heap.size W W' := by
  subst e
  exact ⟨h.kept ((Below.refl _ _).alloc (Nat.le_refl _) _), own_box _ _ _ _, by simp, (Below.refl _ _).alloc (Nat.le_refl _) _⟩


end Go.Proofs.YtejbigdebjcomaaDoor
