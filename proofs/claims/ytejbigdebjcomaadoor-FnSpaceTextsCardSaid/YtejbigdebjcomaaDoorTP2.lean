/-
  What ParseSpace calls: strings.Cut, strings.Split, strconv.ParseInt, numbers read from texts. Conditions: sizes, and that the library's variables read as their text lays them.
-/
import Derived.Test.YtejbigdebjcomaaDoorShP
import Derived.Test.YtejbigdebjcomaaDoorTP1
import Derived.Laws.StructEq
set_option linter.unusedVariables false
set_option linter.unusedSimpArgs false
set_option maxRecDepth 100000
namespace Go.Proofs.YtejbigdebjcomaaDoor
open Go.RowKit


/-- the library's variables -/
structure LibW (w : World) : Prop where
  tab : TabW w
  mx : ∃ m : Int, w.cell? ⟨0, 0, none⟩ = some (.int .i64 m)
  es : ∃ tp p, w.cell? ⟨1, 0, none⟩ = some (.iface tp p)
  er : ∃ tp p, w.cell? ⟨2, 0, none⟩ = some (.iface tp p)

theorem LibW.below {w w' : World} (h : LibW w) (hb : Below w.heap.size w w') : LibW w' := by
  obtain ⟨m, h1⟩ := h.mx
  obtain ⟨t1, p1, h2⟩ := h.es
  obtain ⟨t2, p2, h3⟩ := h.er
  exact ⟨h.tab.below hb, ⟨m, cellKp hb h1⟩, ⟨t1, p1, cellKp hb h2⟩, ⟨t2, p2, cellKp hb h3⟩⟩


theorem iCut_c (T : ByteArray) (w : World) (hs : T.size ≤ 1000000000) (h : LibW w) :
    Calls Tryd.prog 25 #[.string T, .string { data := #[58] }] w fun e w' => Makes w w' e (.tuple #[.string (strB (Lib.cut T.data.toList [58]).1), .string (strB (Lib.cut T.data.toList [58]).2.1), .bool (Lib.cut T.data.toList [58]).2.2]) := by
  obtain ⟨m, hm⟩ := h.mx
  refine (Tryd.strings_Cut T { data := #[58] } m w (by omega) hm).mono fun e w' h => ?_
  obtain ⟨rfl, n, rfl⟩ := h
  exact ⟨rfl, below_drewN w n⟩


/-- what ParseInt hands back -/
structure PInt (w w' : World) (e : Ending) (H : ByteArray) : Prop where
  out : ∃ (v : Int) (er : Value), e = .returned (.tuple #[.int .i64 v, er]) ∧ Below w.heap.size w w' ∧ ((er = .nilIface ∧ Lib.parseIntB 64 H.data.toList = .ok v) ∨ ((∃ N, er = .iface 86 (.pointer (some ⟨N, 0, none⟩))) ∧ ∀ u, Lib.parseIntB 64 H.data.toList ≠ .ok u))

theorem iParseInt_c (H : ByteArray) (w : World) (hs : H.size ≤ 1000000000) (h : LibW w) :
    Calls Tryd.prog 26 #[.string H, .int .i64 10, .int .i64 64] w fun e w' => PInt w w' e H := by
  obtain ⟨t1, p1, h2⟩ := h.es
  obtain ⟨t2, p2, h3⟩ := h.er
  rcases hq : Lib.parseIntB 64 H.data.toList with v | _ | _
  · refine (Tryd.strconv_ParseInt_10_at64_ok H (by omega) v hq w).mono fun e w' h => ?_
    obtain ⟨rfl, h4⟩ := h
    refine ⟨v, _, rfl, ?_, Or.inl ⟨rfl, hq⟩⟩
    rcases h4 with rfl | ⟨t, rfl⟩
    · exact Below.refl _ _
    · exact Lib.bytesWorld_below _ _ _
  · refine (Tryd.strconv_ParseInt_10_at64_syntax H (by omega) hq _ w h2 (Or.inr ⟨t1, p1, rfl⟩)).mono fun e w' h => ?_
    obtain ⟨N, rfl, _, _, hb⟩ := h
    exact ⟨_, _, rfl, hb, Or.inr ⟨⟨N, rfl⟩, fun u e => by rw [hq] at e; cases e⟩⟩
  · refine (Tryd.strconv_ParseInt_10_at64_range H (by omega) hq _ w h3 (Or.inr ⟨t2, p2, rfl⟩)).mono fun e w' h => ?_
    obtain ⟨N, rfl, _, _, hb⟩ := h
    exact ⟨_, _, rfl, hb, Or.inr ⟨⟨N, rfl⟩, fun u e => by rw [hq] at e; cases e⟩⟩


theorem countFrom_le (c : UInt8) : ∀ (fuel : Nat) (s : List UInt8), Lib.countFrom [c] fuel s ≤ fuel
  | 0, _ => Nat.le_refl _
  | fuel + 1, s => by
    rw [Lib.countFrom]
    split
    · exact Nat.zero_le _
    · have := countFrom_le c fuel (s.drop ((Lib.index s [c]).toNat + [c].length))
      omega

theorem splitK_len (c : UInt8) : ∀ (fuel : Nat) (s : List UInt8), (Lib.splitK [c] 0 (Lib.countFrom [c] fuel s) s).length = Lib.countFrom [c] fuel s + 1
  | 0, _ => rfl
  | fuel + 1, s => by
    rw [Lib.countFrom]
    by_cases h : (Lib.index s [c] == -1) = true
    · rw [if_pos h]; rfl
    · rw [if_neg h, Nat.add_comm 1, Lib.splitK, if_neg h, List.length_cons, splitK_len c fuel]

theorem iSplit_c (R : ByteArray) (w : World) (hs : R.size ≤ 1000000000) (h : LibW w) :
    Calls Tryd.prog 28 #[.string R, .string { data := #[32] }] w fun e w' => ∃ (G : Nat) (P : Nat → ByteArray), e = .returned (.slice (some ⟨w.heap.size, 0, none⟩) (G + 1) (G + 1)) ∧ Below w.heap.size w w' ∧ G ≤ 1000000001 ∧ Own w' 9 w.heap.size (G + 1) (G + 1) (fun i => .string (P i)) ∧ Lib.split R.data.toList [32] = (List.range (G + 1)).map fun i => (P i).data.toList := by
  obtain ⟨m, hm⟩ := h.mx
  have hl : (Lib.splitB { data := #[32] } 0 (Lib.countB R { data := #[32] }) R).length = Lib.countB R { data := #[32] } + 1 := by
    have h1 := congrArg List.length (Lib.splitB_data { data := #[32] } 0 (Lib.countB R { data := #[32] }) R)
    rw [List.length_map] at h1
    rw [h1]
    exact splitK_len 32 _ _
  have hc : Lib.countB R { data := #[32] } ≤ 1000000001 := by
    have h1 := countFrom_le 32 (R.data.toList.length + 1) R.data.toList
    rw [← Lib.size_eq] at h1
    show Lib.countFrom [32] (R.data.toList.length + 1) R.data.toList ≤ 1000000001
    rw [← Lib.size_eq]
    omega
  refine (Tryd.strings_Split R { data := #[32] } m w (by omega) hm (Nat.le_refl 1)).mono fun e w' h => ?_
  obtain ⟨rfl, rfl⟩ := h
  have hd := Lib.splitB_data { data := #[32] } 0 (Lib.countB R { data := #[32] }) R
  generalize Lib.splitB { data := #[32] } 0 (Lib.countB R { data := #[32] }) R = L at hl hd
  have hsp : Lib.split R.data.toList [32] = L.map (·.data.toList) := hd.symm
  generalize Lib.countB R { data := #[32] } = G at hl hc
  have hO := Own.new w 9 (L.map Value.string).toArray (fun i => .string (L.getD i ByteArray.empty)) (by simp; omega) (fun i hi => by
    have hi : i < L.length := by simpa using hi
    simp [hi])
  refine ⟨G, fun i => L.getD i ByteArray.empty, rfl, (Below.refl _ _).alloc (Nat.le_refl _) _, hc, ?_, ?_⟩
  · have e1 : (L.map Value.string).toArray.size = G + 1 := by simp [hl]
    rw [e1] at hO
    exact hO
  · rw [hsp]
    apply List.ext_getElem
    · simp [hl]
    · intro i h1 h2
      have h3 : i < L.length := by simpa using h1
      simp [h3]


theorem ba_beq (C t : ByteArray) : (C == t) = decide (C = t) := by
  obtain ⟨c⟩ := C
  obtain ⟨d⟩ := t
  show (c == d) = _
  by_cases h : c = d
  · subst h; simp
  · rw [decide_eq_false (fun e => h (by injection e))]; simpa using h

theorem neB {C t : ByteArray} (h : C ≠ t) : (C.toList == t.toList) = false := by
  rw [← beq_toListBytes, ba_beq]; exact decide_eq_false h


/-- the least number with a text -/
def ctxN (P : Nat) (t : ByteArray) : Nat := fst (fun a => decide (strB (ctx P a) = t)) P

theorem strB_inj {a b : List UInt8} (h : strB a = strB b) : a = b := by
  have := congrArg (fun x : ByteArray => x.data.toList) h
  simpa [strB] using this

theorem ctxN_at {P : Nat} (hp : 3 ≤ (P : Int)) {a : Int} (ha : 0 ≤ a ∧ a < P) {t : ByteArray} (ht : t.data.toList = ctx P a) : ((ctxN P t : Nat) : Int) = a := by
  obtain ⟨A, rfl⟩ := Int.eq_ofNat_of_zero_le ha.1
  have e : t = strB (ctx P A) := by
    rw [← ht]; unfold strB
    apply ByteArray.ext
    simp
  have h1 : ctxN P t = A := by
    unfold ctxN
    refine fst_at (by omega) (fun j hj => decide_eq_false fun h => ?_) (decide_eq_true e.symm)
    rw [e] at h
    have := ctx_inj hp ⟨by omega, by omega⟩ ha (strB_inj h)
    omega
  rw [h1]


set_option maxHeartbeats 1000000 in
theorem iFParse_c (P : Nat) (t : ByteArray) (w : World) (hp : 3 ≤ (P : Int) ∧ (P : Int) ≤ 13) (h : TabW w) :
    Calls Tryd.prog 29 #[.int .i64 P, .string t] w fun e w' => Makes w w' e (.tuple #[.int .i64 (if ctxN P t < P then (ctxN P t : Int) else 0), .bool (decide (ctxN P t < P))]) := by
  have HT : Hid (∀ W (a : Nat), Below w.heap.size w W → a < P → Calls Tryd.prog 50 #[.int .i64 P, .int .i64 a] W fun e w' => Makes W w' e (.string (strB (ctx P a)))) := fun W a hb ha => iText_c P a W hp ⟨by omega, by omega⟩ (h.below hb)
  obtain ⟨x, hx⟩ : ∃ x : Int, (if ctxN P t < P then (ctxN P t : Int) else 0) = x := ⟨_, rfl⟩
  obtain ⟨f, hf⟩ : ∃ f : Bool, decide (ctxN P t < P) = f := ⟨_, rfl⟩
  rw [hx, hf]
  have HX := Lib.hid hx
  have HFF := Lib.hid hf
  clear h hx hf
  go_enter Tryd.func29, Tryd.ntmps29
  go_wp2
  go_loopg [8] P (fun g i wr => ∃ a : Nat, a ≤ P ∧ g = P - a ∧ i = .int .i64 a ∧ Hid (Below w.heap.size w wr) ∧ Hid (∀ b, b < a → decide (strB (ctx P b) = t) = false))
  case atStart => exact ⟨0, Nat.zero_le _, rfl, rfl, Below.refl _ _, fun b hb => absurd hb (Nat.not_lt_zero _)⟩
  case round =>
    obtain ⟨a, ha, rfl, rfl, hb, hall⟩ := hrel
    by_cases hlt : a < P
    · have HTa := Lib.hid (HT.out _ a hb.out hlt)
      obtain ⟨C, hC⟩ : ∃ C, strB (ctx P a) = C := ⟨_, rfl⟩
      rw [hC] at HTa
      have HCC := Lib.hid hC
      clear hC
      by_cases he : C = t
      · subst he
        have hN : ctxN P C = a := by
          unfold ctxN
          exact fst_at hlt hall.out (decide_eq_true HCC.out)
        have HN := Lib.hid hN
        clear hN
        go_wp2_with (go_at_call 50; refine Calls.makes' HTa.out _ fun w1 hb1 => ?_)
        have hf := hb.out.trans (hb1.mono hb.out.size)
        go_ret2
        obtain rfl : (a : Int) = x := by rw [← HX.out, HN.out, if_pos hlt]
        obtain rfl : true = f := by rw [← HFF.out, HN.out, decide_eq_true hlt]
        exact ⟨rfl, hf⟩
      · have hne := neB he
        have hdf : decide (C = t) = false := decide_eq_false he
        have HD := Lib.hid hdf
        go_wp2_with (go_at_call 50; refine Calls.makes' HTa.out _ fun w1 hb1 => ?_)
        have hf := Lib.hid (hb.out.trans (hb1.mono hb.out.size))
        go_roundg (P - (a + 1))
        case measure => omega
        case rel => exact ⟨a + 1, by omega, rfl, by go_num, hf.out, fun b hb => by
          by_cases e : b = a
          · subst e; rw [HCC.out]; exact HD.out
          · exact hall.out b (by omega)⟩
    · obtain rfl : a = P := by omega
      have hN : Hid (ctxN a t = a) := by show ctxN a t = a; unfold ctxN; exact fst_none hall.out
      go_wp2
      go_ret2
      obtain rfl : (0 : Int) = x := by rw [← HX.out, hN.out, if_neg (Nat.lt_irrefl _)]
      obtain rfl : false = f := by rw [← HFF.out, hN.out, decide_eq_false (Nat.lt_irrefl _)]
      exact ⟨rfl, hb.out⟩


set_option maxHeartbeats 1000000 in
theorem sParseNum_c (P : Nat) (t : ByteArray) (w : World) (hp : primeB P = true) :
    Calls Tryd.prog 22 #[.int .i64 P, .string t] w fun e w' => Makes w w' e (.tuple #[.int .i64 (if ctxN P t < P then (ctxN P t : Int) else 0), .int .i64 (if ctxN P t < P then 0 else 6)]) := by
  have hpb := primeB_bd hp
  have HP := Lib.hid (hp ▸ sPrime_c P w)
  have HT : Hid (∀ W (a : Nat), a < P → Calls Tryd.prog 42 #[.int .i64 P, .int .i64 a] W fun e w' => Makes W w' e (.string (strB (ctx P a)))) := fun W a ha => sText_c P a W hpb ⟨by omega, by omega⟩
  obtain ⟨x, hx⟩ : ∃ x : Int, (if ctxN P t < P then (ctxN P t : Int) else 0) = x := ⟨_, rfl⟩
  obtain ⟨f, hf⟩ : ∃ f : Int, (if ctxN P t < P then (0 : Int) else 6) = f := ⟨_, rfl⟩
  rw [hx, hf]
  have HX := Lib.hid hx
  have HFF := Lib.hid hf
  clear hp hx hf
  go_enter Tryd.func22, Tryd.ntmps22
  go_wp2_with (go_at_call 20; refine HP.out.mono ?_; rintro e w' ⟨rfl, rfl⟩)
  go_loopg [6] P (fun g i wr => ∃ a : Nat, a ≤ P ∧ g = P - a ∧ i = .int .i64 a ∧ Hid (Below w.heap.size w wr) ∧ Hid (∀ b, b < a → decide (strB (ctx P b) = t) = false))
  case atStart => exact ⟨0, Nat.zero_le _, rfl, rfl, Below.refl _ _, fun b hb => absurd hb (Nat.not_lt_zero _)⟩
  case round =>
    obtain ⟨a, ha, rfl, rfl, hb, hall⟩ := hrel
    by_cases hlt : a < P
    · have HTa := Lib.hid (fun W => HT.out W a hlt)
      obtain ⟨C, hC⟩ : ∃ C, strB (ctx P a) = C := ⟨_, rfl⟩
      rw [hC] at HTa
      have HCC := Lib.hid hC
      clear hC
      by_cases he : C = t
      · subst he
        have hN : ctxN P C = a := by
          unfold ctxN
          exact fst_at hlt hall.out (decide_eq_true HCC.out)
        have HN := Lib.hid hN
        clear hN
        go_wp2_with (go_at_call 42; refine Calls.makes' (HTa.out _) _ fun w1 hb1 => ?_)
        have hf := hb.out.trans (hb1.mono hb.out.size)
        go_ret2
        obtain rfl : (a : Int) = x := by rw [← HX.out, HN.out, if_pos hlt]
        obtain rfl : (0 : Int) = f := by rw [← HFF.out, HN.out, if_pos hlt]
        exact ⟨rfl, hf⟩
      · have hne := neB he
        have hdf : decide (C = t) = false := decide_eq_false he
        have HD := Lib.hid hdf
        go_wp2_with (go_at_call 42; refine Calls.makes' (HTa.out _) _ fun w1 hb1 => ?_)
        have hf := Lib.hid (hb.out.trans (hb1.mono hb.out.size))
        go_roundg (P - (a + 1))
        case measure => omega
        case rel => exact ⟨a + 1, by omega, rfl, by go_num, hf.out, fun b hb => by
          by_cases e : b = a
          · subst e; rw [HCC.out]; exact HD.out
          · exact hall.out b (by omega)⟩
    · obtain rfl : a = P := by omega
      have hN : Hid (ctxN a t = a) := by show ctxN a t = a; unfold ctxN; exact fst_none hall.out
      go_wp2
      go_ret2
      obtain rfl : (0 : Int) = x := by rw [← HX.out, hN.out, if_neg (Nat.lt_irrefl _)]
      obtain rfl : (6 : Int) = f := by rw [← HFF.out, hN.out, if_neg (Nat.lt_irrefl _)]
      exact ⟨rfl, hb.out⟩

end Go.Proofs.YtejbigdebjcomaaDoor
