/-
  What the laws' own small functions compute: the size of a table, copies and comparisons of lists and tables. No condition beside sizes.
-/
import Derived.Test.YtdehfpnlehbdjaaK
set_option linter.unusedVariables false
set_option linter.unusedSimpArgs false
namespace Go.Proofs.Ytdehfpnlehbdjaa
open Go.RowKit

def szP (left : Int) (tot : Nat) : Int := if (tot : Int) ≤ left then left - tot else -1
def sumL (L : Nat → Nat) : Nat → Nat
  | 0 => 0
  | k + 1 => sumL L k + L k

theorem ret_i64 {a b : Int} (h : a = b) : Ending.returned (.int .i64 a) = .returned (.int .i64 b) := by rw [h]
theorem ret_bool {a b : Bool} (h : a = b) : Ending.returned (.bool a) = .returned (.bool b) := by rw [h]

set_option maxHeartbeats 400000 in
theorem szInt64S_c (ao : Option Addr) (n c : Nat) (l : Int) (w : World) (hn : n ≤ 9223372036854775807) (h0 : 0 ≤ l) (hl : l ≤ 1048576) :
    Calls Try.prog 30 #[.slice ao n c, .int .i64 l] w fun e w' => e = .returned (.int .i64 (szP l n)) ∧ w = w' := by
  go_enter Try.func30, Try.ntmps30
  go_wp2
  all_goals
    go_ret
    exact ⟨ret_i64 (by unfold szP; split <;> omega), rfl⟩

set_option maxHeartbeats 400000 in
theorem szInt64SS_c (v : Value) (G : Nat) (L : Nat → Nat) (T : Nat → Nat → Int) (w : World) (h : Tab w v G L T) :
    Calls Try.prog 9 #[v, .int .i64 1048576] w fun e w' => e = .returned (.int .i64 (szP 1048576 (G + sumL L G))) ∧ w = w' := by
  obtain ⟨ao, c, b, o, A, C, RB, RO, rfl, h2, h3, h4, h5, h6, h7, h8⟩ := h.out
  clear h7 h8 h
  have mono : ∀ k d, sumL L k ≤ sumL L (k + d) := fun k d => by
    induction d with
    | zero => exact Nat.le_refl _
    | succ d ih => have e : sumL L (k + (d + 1)) = sumL L (k + d) + L (k + d) := rfl; omega
  have Hm := Lib.hid mono; clear mono
  by_cases hG : G ≤ 1048576
  · go_enter Try.func9, Try.ntmps9
    go_wp2
    go_loopg [1, 5] G (fun g l i wr => wr = w ∧ ∃ k : Nat, k ≤ G ∧ g = G - k ∧ i = .int .i64 k ∧ G + sumL L k ≤ 1048576 ∧ l = .int .i64 (1048576 - ((G + sumL L k : Nat) : Int)))
    case atStart => exact ⟨rfl, 0, Nat.zero_le _, rfl, rfl, by simp [sumL]; omega, by simp [sumL]⟩
    case round =>
      obtain ⟨rfl, k, hk, rfl, rfl, hs, rfl⟩ := hrel
      by_cases hlt : k < G
      · obtain rfl := h4 (by omega)
        have hC := h6 k hlt
        have Hs : Hid (sumL L (k + 1) = sumL L k + L k) := rfl
        go_wp2_with (go_at_call 30; refine (szInt64S_c _ _ _ _ _ (by omega) (by omega) (by omega)).mono ?_; rintro e w' ⟨rfl, rfl⟩)
        · go_ret
          have h1 : szP (1048576 - (↑G + ↑(sumL L k))) (L k) < 0 := by assumption
          have h2 := Hm.out (k + 1) (G - (k + 1))
          rw [show k + 1 + (G - (k + 1)) = G by omega] at h2
          have h3 := Hs.out
          exact ⟨ret_i64 (by unfold szP at *; split at h1 <;> split <;> omega), rfl⟩
        · have h1 : 0 ≤ szP (1048576 - (↑G + ↑(sumL L k))) (L k) := by assumption
          have h3 := Hs.out
          go_roundg (G - (k + 1))
          case measure => omega
          case rel => exact ⟨rfl, k + 1, by omega, rfl, by go_num, by unfold szP at h1; split at h1 <;> omega, by congr 1; unfold szP at *; split at h1 <;> split <;> omega⟩
      · obtain rfl : k = G := by omega
        go_wp2
        go_ret
        exact ⟨ret_i64 (by unfold szP; split <;> omega), rfl⟩
  · go_enter Try.func9, Try.ntmps9
    go_wp2
    go_ret
    exact ⟨ret_i64 (by unfold szP; split <;> omega), rfl⟩

/-- A copy of a list: new memory. -/
structure CopyI (w w' : World) (e : Ending) (n : Nat) (X : Nat → Int) : Prop where
  out : ∃ g c, e = .returned (.slice (some ⟨g, 0, none⟩) n c) ∧ w.heap.size ≤ g ∧ Below w.heap.size w w' ∧ Own w' 2 g c n (fun i => .int .i64 (X i))

set_option maxHeartbeats 400000 in
theorem toInt64S_c (v : Value) (n : Nat) (X : Nat → Int) (w : World) (h : Ints w v n X) (hn : n ≤ 1048576) :
    Calls Try.prog 24 #[v] w fun e w' => CopyI w w' e n X := by
  obtain ⟨ao, c, b, o, rfl, h2, h3, h4, h5⟩ := h.out
  clear h
  go_enter Try.func24, Try.ntmps24
  go_wp2_with (at_make; refine wpList_mk _ rfl _ _ _ _ elI rfl rfl .i64 .i64 n rfl rfl (by omega) (by omega) ?_; intro hO)
  go_loopg [4] n (fun gg i wr => ∃ k : Nat, k ≤ n ∧ gg = n - k ∧ i = .int .i64 k ∧ Below w.heap.size w wr ∧ Own wr 2 w.heap.size n k (fun i => .int .i64 (X i)))
  case atStart => exact ⟨0, Nat.zero_le _, rfl, rfl, (Below.refl _ _).alloc (Nat.le_refl _) _, (hO.shorter (Nat.zero_le _)).congr fun i hi => absurd hi (Nat.not_lt_zero _)⟩
  case round =>
    obtain ⟨k, hk, rfl, rfl, hb, hO2⟩ := hrel
    clear hO
    by_cases hlt : k < n
    · obtain rfl := h4 (by omega)
      have hx := cells_below hb (fun _ => lt_of_cell (h5 k hlt)) h5
      obtain ⟨u, hu⟩ := hO2.cellAny hlt
      have hf := hO2.frozen k
      clear h5
      go_wp2
      go_roundg (n - (k + 1))
      case measure => omega
      case rel => exact ⟨k + 1, by omega, rfl, by go_num, hb.setCell (Nat.le_refl _) _, (hO2.setNext hlt _).congr fun i hi => by by_cases e : i = k <;> simp [e]⟩
    · obtain rfl : k = n := by omega
      clear h5
      go_wp2
      go_ret
      exact ⟨_, _, rfl, Nat.le_refl _, hb, hO2⟩

/-- A copy of a table: new memory, each row its own. -/
structure CopyT (w w' : World) (e : Ending) (G : Nat) (L : Nat → Nat) (T : Nat → Nat → Int) : Prop where
  out : ∃ g c, e = .returned (.slice (some ⟨g, 0, none⟩) G c) ∧ Below w.heap.size w w' ∧ OTab w' w.heap.size g c G L T

theorem Tab.rowAt {w : World} {G : Nat} {A : Nat → Option Addr} {L C RB RO : Nat → Nat} {T : Nat → Nat → Int}
    (h6 : ∀ i, i < G → L i ≤ C i ∧ C i ≤ 9223372036854775807) (h7 : ∀ i, i < G → 0 < L i → A i = some ⟨RB i, RO i, none⟩) (h8 : ∀ i j, i < G → j < L i → w.cell? ⟨RB i, RO i + j, none⟩ = some (.int .i64 (T i j))) {i : Nat} (hi : i < G) : Ints w (.slice (A i) (L i) (C i)) (L i) (T i) :=
  ⟨A i, C i, RB i, RO i, rfl, (h6 i hi).1, (h6 i hi).2, h7 i hi, fun j hj => h8 i j hi hj⟩

set_option maxHeartbeats 400000 in
theorem toInt64SS_c (v : Value) (G : Nat) (L : Nat → Nat) (T : Nat → Nat → Int) (w : World) (h : Tab w v G L T) (hG : G ≤ 1048576) (hL : ∀ i, i < G → L i ≤ 1048576) :
    Calls Try.prog 12 #[v] w fun e w' => CopyT w w' e G L T := by
  obtain ⟨ao, c, b, o, A, C, RB, RO, rfl, h2, h3, h4, h5, h6, h7, h8⟩ := h.out
  clear h
  have hrow : ∀ i, i < G → Ints w (.slice (A i) (L i) (C i)) (L i) (T i) := fun i hi => Tab.rowAt h6 h7 h8 hi
  have Hr := Lib.hid hrow; clear hrow
  have HL := Lib.hid hL; clear hL
  clear h6 h7 h8
  go_enter Try.func12, Try.ntmps12
  go_wp2_with (at_make; refine wpList_mk _ rfl _ _ _ _ elR rfl rfl .i64 .i64 G rfl rfl (by omega) (by omega) ?_; intro hO)
  go_loopg [4] G (fun gg i wr => ∃ k : Nat, k ≤ G ∧ gg = G - k ∧ i = .int .i64 k ∧ Below w.heap.size w wr ∧ OTab wr w.heap.size w.heap.size G k L T)
  case atStart => exact ⟨0, Nat.zero_le _, rfl, rfl, (Below.refl _ _).alloc (Nat.le_refl _) _, ⟨fun _ => 0, fun _ => 0, (hO.shorter (Nat.zero_le _)).congr fun i hi => absurd hi (Nat.not_lt_zero _), Nat.le_refl _, fun i hi => absurd hi (Nat.not_lt_zero _), fun i j hi => absurd hi (Nat.not_lt_zero _)⟩⟩
  case round =>
    obtain ⟨k, hk, rfl, rfl, hb, hO2⟩ := hrel
    clear hO
    by_cases hlt : k < G
    · obtain rfl := h4 (by omega)
      have hx := cells_below hb (fun _ => lt_of_cell (h5 k hlt)) h5
      have hi := ((Hr.out k hlt).below hb)
      have hl := HL.out k hlt
      clear h5
      go_wp2_with fail
      refine (toInt64S_c _ _ _ _ hi hl).mono ?_
      rintro e w1 ⟨g1, c1, rfl, hg1, hb1, hO1⟩
      obtain ⟨R, C', q1, q2, q3, q4⟩ := hO2.out
      obtain ⟨u, hu⟩ := (q1.kept hb1).cellAny hlt
      have hf := (q1.kept hb1).frozen k
      have hO3 := hO2.kept hb1
      have hsz := q1.lt
      clear hx q1 q2 q3 q4
      go_wp2
      go_roundg (G - (k + 1))
      case measure => omega
      case rel =>
        refine ⟨k + 1, by omega, rfl, by go_num, (hb.trans (hb1.mono hb.size)).setCell (Nat.le_refl _) _, (hO3.setNext hlt hO1 (by omega) (by omega) ?_).congr (fun i hi => ?_) (fun i j hi hj => ?_)⟩
        · intro i u hi hc
          obtain ⟨R, C', q1, q2, q3, q4⟩ := hO2.out
          rw [(q1.kept hb1).cell hi] at hc
          injection hc with hc
          subst hc
          have := (q3 i hi).1.lt
          simp [Value.ownBlock]; omega
        · by_cases e : i = k <;> simp [e]
        · by_cases e : i = k <;> simp [e]
    · obtain rfl : k = G := by omega
      clear h5
      go_wp2
      go_ret
      exact ⟨_, _, rfl, hb, hO2⟩

def eqB (n m : Nat) (X Y : Nat → Int) : Bool := decide (n = m ∧ ∀ i, i < n → X i = Y i)
theorem eqB_ne {n m : Nat} {X Y : Nat → Int} (h : n ≠ m) : eqB n m X Y = false := by unfold eqB; simp [h]
theorem eqB_at {n : Nat} {X Y : Nat → Int} {k : Nat} (hk : k < n) (h : X k ≠ Y k) : eqB n n X Y = false := by
  unfold eqB; exact decide_eq_false fun ⟨_, h2⟩ => h (h2 k hk)
theorem eqB_all {n : Nat} {X Y : Nat → Int} (h : ∀ i, i < n → X i = Y i) : eqB n n X Y = true := by
  unfold eqB; exact decide_eq_true ⟨rfl, h⟩

/-- A call that only reads. -/
structure Reads (w w' : World) (e : Ending) (v : Value) : Prop where
  out : e = .returned v ∧ ∃ q, w' = w.drewN q

set_option maxHeartbeats 400000 in
theorem eqInt64S_c (v1 v2 : Value) (n m : Nat) (X Y : Nat → Int) (w : World) (h1 : Ints w v1 n X) (h2 : Ints w v2 m Y) :
    Calls Try.prog 26 #[v1, v2] w fun e w' => Reads w w' e (.bool (eqB n m X Y)) := by
  obtain ⟨ao, c, ab, aoff, rfl, p2, p3, p4, p5⟩ := h1.out
  obtain ⟨bo, d, bb, boff, rfl, r2, r3, r4, r5⟩ := h2.out
  clear h1 h2
  by_cases hnm : n = m
  · subst hnm
    go_enter Try.func26, Try.ntmps26
    go_wp2
    go_loopg [5] n (fun g i wr => ∃ k : Nat, k ≤ n ∧ g = n - k ∧ i = .int .i64 k ∧ (∃ q, wr = w.drewN q) ∧ ∀ j, j < k → X j = Y j)
    case atStart => exact ⟨0, Nat.zero_le _, rfl, rfl, ⟨0, rfl⟩, fun j hj => absurd hj (Nat.not_lt_zero _)⟩
    case round =>
      obtain ⟨k, hk, rfl, rfl, ⟨q, rfl⟩, hall⟩ := hrel
      have H := Lib.hid hall; clear hall
      by_cases hlt : k < n
      · obtain rfl := p4 (by omega)
        obtain rfl := r4 (by omega)
        go_wp2
        go_quiet (fail)
        go_wp2
        · have ht : (X k != Y k) = true := by assumption
          go_ret
          exact ⟨ret_bool (eqB_at hlt (by simpa using ht)).symm, by first | exact ⟨_, rfl⟩ | exact ⟨_, World.drewN_drewN _ _ _⟩⟩
        · have ht : (X k != Y k) = false := by assumption
          go_roundg (n - (k + 1))
          case measure => omega
          case rel => exact ⟨k + 1, by omega, rfl, by go_num, (by first | exact ⟨_, rfl⟩ | exact ⟨_, World.drewN_drewN _ _ _⟩), fun j hj => by
            by_cases e : j = k
            · subst e; simpa using ht
            · exact H.out j (by omega)⟩
      · obtain rfl : k = n := by omega
        go_wp2
        go_ret
        exact ⟨ret_bool (eqB_all H.out).symm, _, rfl⟩
  · have hd : ((n : Int) != (m : Int)) = true := by rw [bne_iff_ne]; omega
    go_enter Try.func26, Try.ntmps26
    go_wp2
    go_ret
    exact ⟨ret_bool (eqB_ne hnm).symm, 0, rfl⟩

def eqTB (G H : Nat) (L M : Nat → Nat) (T U : Nat → Nat → Int) : Bool := decide (G = H ∧ ∀ i, i < G → eqB (L i) (M i) (T i) (U i) = true)
theorem eqTB_ne {G H : Nat} {L M : Nat → Nat} {T U : Nat → Nat → Int} (h : G ≠ H) : eqTB G H L M T U = false := by unfold eqTB; simp [h]
theorem eqTB_at {G : Nat} {L M : Nat → Nat} {T U : Nat → Nat → Int} {k : Nat} (hk : k < G) (h : eqB (L k) (M k) (T k) (U k) = false) : eqTB G G L M T U = false := by
  unfold eqTB; exact decide_eq_false fun ⟨_, h2⟩ => by rw [h2 k hk] at h; cases h
theorem eqTB_all {G : Nat} {L M : Nat → Nat} {T U : Nat → Nat → Int} (h : ∀ i, i < G → eqB (L i) (M i) (T i) (U i) = true) : eqTB G G L M T U = true := by
  unfold eqTB; exact decide_eq_true ⟨rfl, h⟩
theorem eqB_refl (n : Nat) (X : Nat → Int) : eqB n n X X = true := eqB_all fun _ _ => rfl
theorem eqTB_refl (G : Nat) (L : Nat → Nat) (T : Nat → Nat → Int) : eqTB G G L L T T = true := eqTB_all fun _ _ => eqB_refl _ _

theorem drewN_more {w wr : World} (h : ∃ q, wr = w.drewN q) (n : Nat) : ∃ q, wr.drewN n = w.drewN q := by
  obtain ⟨q, rfl⟩ := h; exact ⟨_, World.drewN_drewN _ _ _⟩

theorem Calls.reads {P : Program} {f : FuncId} {args : Array Value} {w : World} {n : Nat} {v : Value}
    (h : Calls P f args (w.drewN n) fun e w' => Reads (w.drewN n) w' e v) : Calls P f args (w.drewN n) fun e w'' => e = .returned v ∧ ∃ m, w'' = w.drewN m :=
  Calls.quiet_of (h.mono fun _ _ h => h.out)

set_option maxHeartbeats 400000 in
theorem eqInt64SS_c (v1 v2 : Value) (G H : Nat) (L M : Nat → Nat) (T U : Nat → Nat → Int) (w : World) (h1 : Tab w v1 G L T) (h2 : Tab w v2 H M U) :
    Calls Try.prog 15 #[v1, v2] w fun e w' => Reads w w' e (.bool (eqTB G H L M T U)) := by
  obtain ⟨ao, c, ab, aoff, A, C, RB, RO, rfl, p2, p3, p4, p5, p6, p7, p8⟩ := h1.out
  obtain ⟨bo, d, bb, boff, A', C', RB', RO', rfl, r2, r3, r4, r5, r6, r7, r8⟩ := h2.out
  clear h1 h2
  have hr1 : ∀ i, i < G → Ints w (.slice (A i) (L i) (C i)) (L i) (T i) := fun i hi => Tab.rowAt p6 p7 p8 hi
  have hr2 : ∀ i, i < H → Ints w (.slice (A' i) (M i) (C' i)) (M i) (U i) := fun i hi => Tab.rowAt r6 r7 r8 hi
  have H1 := Lib.hid hr1
  have H2 := Lib.hid hr2
  clear hr1 hr2 p6 p7 p8 r6 r7 r8
  by_cases hnm : G = H
  · subst hnm
    go_enter Try.func15, Try.ntmps15
    go_wp2
    go_loopg [5] G (fun g i wr => ∃ k : Nat, k ≤ G ∧ g = G - k ∧ i = .int .i64 k ∧ (∃ q, wr = w.drewN q) ∧ ∀ j, j < k → eqB (L j) (M j) (T j) (U j) = true)
    case atStart => exact ⟨0, Nat.zero_le _, rfl, rfl, ⟨0, rfl⟩, fun j hj => absurd hj (Nat.not_lt_zero _)⟩
    case round =>
      obtain ⟨k, hk, rfl, rfl, hq, hall⟩ := hrel
      have H := Lib.hid hall; clear hall
      have Hq := Lib.hid hq
      by_cases hlt : k < G
      · obtain rfl := p4 (by omega)
        obtain rfl := r4 (by omega)
        have e1 : wr.cell? ⟨ab, aoff + k, none⟩ = some (.slice (A k) (L k) (C k)) := by obtain ⟨q, rfl⟩ := hq; simpa using p5 k hlt
        have e2 : wr.cell? ⟨bb, boff + k, none⟩ = some (.slice (A' k) (M k) (C' k)) := by obtain ⟨q, rfl⟩ := hq; simpa using r5 k hlt
        have i1 : ∀ n, Ints (wr.drewN n) (.slice (A k) (L k) (C k)) (L k) (T k) := fun n => by obtain ⟨q, rfl⟩ := hq; exact ((H1.out k hlt).drewN q).drewN n
        have i2 : ∀ n, Ints (wr.drewN n) (.slice (A' k) (M k) (C' k)) (M k) (U k) := fun n => by obtain ⟨q, rfl⟩ := hq; exact ((H2.out k hlt).drewN q).drewN n
        have I1 := Lib.hid i1
        have I2 := Lib.hid i2
        clear i1 i2 p5 r5 hq
        go_wp2
        go_quiet ((go_at_call 26; exact Calls.reads (eqInt64S_c _ _ _ _ _ _ _ (I1.out _) (I2.out _))))
        cases hb : eqB (L k) (M k) (T k) (U k)
        · go_wp2
          go_ret
          exact ⟨ret_bool (eqTB_at hlt hb).symm, drewN_more Hq.out _⟩
        · go_wp2
          go_roundg (G - (k + 1))
          case measure => omega
          case rel => exact ⟨k + 1, by omega, rfl, by go_num, drewN_more Hq.out _, fun j hj => by
            by_cases e : j = k
            · subst e; exact hb
            · exact H.out j (by omega)⟩
      · obtain rfl : k = G := by omega
        go_wp2
        go_ret
        exact ⟨ret_bool (eqTB_all H.out).symm, Hq.out⟩
  · have hd : ((G : Int) != (H : Int)) = true := by rw [bne_iff_ne]; omega
    go_enter Try.func15, Try.ntmps15
    go_wp2
    go_ret
    exact ⟨ret_bool (eqTB_ne hnm).symm, 0, rfl⟩

end Go.Proofs.Ytdehfpnlehbdjaa
