/-
  The text of a space is that of no other; what cutting it gives. No program is in sight. No condition.
-/
import Derived.Test.YtejbigdebjcomaaDoorTX2
import Derived.Lib.Split
import Derived.Lib.ParseIntB
set_option linter.unusedVariables false
set_option linter.unusedSimpArgs false
set_option maxRecDepth 100000
namespace Go.Proofs.YtejbigdebjcomaaDoor

/-! ### digits -/

theorem dig_bytes : ∀ (k n : Nat), n < k → ∀ b ∈ Lib.decDigits n, 48 ≤ b.toNat ∧ b.toNat ≤ 57
  | 0, n, h, _, _ => absurd h (Nat.not_lt_zero _)
  | k + 1, n, h, b, hb => by
    rw [Lib.decDigits] at hb
    split at hb
    · rw [List.mem_singleton] at hb
      subst hb
      rw [UInt8.toNat_ofNat']
      omega
    · rcases List.mem_append.1 hb with hb | hb
      · exact dig_bytes k (n / 10) (by omega) b hb
      · rw [List.mem_singleton] at hb
        subst hb
        rw [UInt8.toNat_ofNat']
        omega

/-- what digits spell -/
def valD (l : List UInt8) : Nat := l.foldl (fun a b => a * 10 + (b.toNat - 48)) 0

theorem valD_app (l : List UInt8) (b : UInt8) : valD (l ++ [b]) = valD l * 10 + (b.toNat - 48) := by
  unfold valD; rw [List.foldl_append]; rfl

theorem valD_dec : ∀ (k n : Nat), n < k → valD (Lib.decDigits n) = n
  | 0, n, h => absurd h (Nat.not_lt_zero _)
  | k + 1, n, h => by
    rw [Lib.decDigits]
    split
    · show 0 * 10 + ((UInt8.ofNat (48 + n)).toNat - 48) = n
      rw [UInt8.toNat_ofNat']
      omega
    · rw [valD_app, valD_dec k (n / 10) (by omega), UInt8.toNat_ofNat']
      omega

theorem dec_inj {m n : Nat} (h : Lib.decDigits m = Lib.decDigits n) : m = n := by
  rw [← valD_dec (m + 1) m (by omega), ← valD_dec (n + 1) n (by omega), h]

theorem itoa_inj {a b : Int} (h : Lib.itoa a = Lib.itoa b) : a = b := by
  have hno : ∀ (x y : Nat), ¬ (45 :: Lib.decDigits x = Lib.decDigits y) := fun x y e => by
    have := dig_bytes (y + 1) y (by omega) 45 (by rw [← e]; simp)
    have h45 : (45 : UInt8).toNat = 45 := rfl
    omega
  unfold Lib.itoa at h
  split at h <;> split at h
  · have := dec_inj (List.cons.inj h).2
    omega
  · exact absurd h (hno _ _)
  · exact absurd h.symm (hno _ _)
  · have := dec_inj h
    omega

/-- no sign of these stands in a number's text -/
theorem itoa_no {a : Int} {c : UInt8} (h45 : c.toNat ≠ 45) (hd : c.toNat < 48 ∨ 57 < c.toNat) : c ∉ Lib.itoa a := fun hc => by
  unfold Lib.itoa at hc
  split at hc
  · rcases List.mem_cons.1 hc with e | hc
    · subst e; exact h45 rfl
    · have := dig_bytes _ _ (Nat.lt_succ_self _) c hc
      omega
  · have := dig_bytes _ _ (Nat.lt_succ_self _) c hc
    omega

theorem ctx_no {p a : Int} {c : UInt8} (h45 : c.toNat ≠ 45) (hd : c.toNat < 48 ∨ 57 < c.toNat) : c ∉ ctx p a := itoa_no h45 hd

theorem ctx_inj {p a b : Int} (hp : 3 ≤ p) (ha : 0 ≤ a ∧ a < p) (hb : 0 ≤ b ∧ b < p) (h : ctx p a = ctx p b) : a = b := by
  have h1 := itoa_inj h
  split at h1 <;> split at h1 <;> omega

/-! ### cutting at one sign -/

theorem index_no {c : UInt8} : ∀ {l : List UInt8}, c ∉ l → Lib.index l [c] = -1
  | [], _ => rfl
  | b :: l, h => by
    have h1 : c ≠ b := fun e => h (by rw [e]; simp)
    have ih := index_no (l := l) fun e => h (List.mem_cons_of_mem _ e)
    have h2 : [c].isPrefixOf (b :: l) = false := by simp [List.isPrefixOf, h1]
    rw [Lib.index, if_neg (by rw [h2]; decide), ih]; rfl

theorem index_at {c : UInt8} {r : List UInt8} : ∀ {a : List UInt8}, c ∉ a → Lib.index (a ++ c :: r) [c] = a.length
  | [], _ => by
    show Lib.index (c :: r) [c] = 0
    rw [Lib.index, if_pos (by simp [List.isPrefixOf])]
  | b :: a, h => by
    have h1 : c ≠ b := fun e => h (by rw [e]; simp)
    have ih := index_at (r := r) (a := a) fun e => h (List.mem_cons_of_mem _ e)
    have h2 : [c].isPrefixOf (b :: (a ++ c :: r)) = false := by simp [List.isPrefixOf, h1]
    show Lib.index (b :: (a ++ c :: r)) [c] = _
    rw [Lib.index, if_neg (by rw [h2]; decide), ih]
    rw [if_neg (by simp), List.length_cons]; omega

theorem cut_at {c : UInt8} {a r : List UInt8} (h : c ∉ a) : Lib.cut (a ++ c :: r) [c] = (a, r, true) := by
  unfold Lib.cut
  rw [index_at h, if_pos (by omega)]
  simp


/-- words, each behind a sign -/
def wordsR (c : UInt8) : List (List UInt8) → List UInt8
  | [] => []
  | w :: ws => c :: (w ++ wordsR c ws)

theorem wordsR_app (c : UInt8) (w : List UInt8) : ∀ ws, wordsR c (ws ++ [w]) = wordsR c ws ++ c :: w
  | [] => by simp [wordsR]
  | x :: ws => by
    show c :: (x ++ wordsR c (ws ++ [w])) = _
    rw [wordsR_app c w ws]; simp [wordsR]

theorem count_words {c : UInt8} : ∀ {ws : List (List UInt8)} {w : List UInt8} {fuel : Nat}, (∀ x ∈ w :: ws, c ∉ x) → ws.length < fuel → Lib.countFrom [c] fuel (w ++ wordsR c ws) = ws.length
  | _, _, 0, _, h => absurd h (Nat.not_lt_zero _)
  | [], w, fuel + 1, h, _ => by
    show Lib.countFrom [c] (fuel + 1) (w ++ []) = 0
    rw [List.append_nil, Lib.countFrom, index_no (h w (by simp))]; rfl
  | x :: ws, w, fuel + 1, h, hf => by
    show Lib.countFrom [c] (fuel + 1) (w ++ c :: (x ++ wordsR c ws)) = ws.length + 1
    have e : (w ++ c :: (x ++ wordsR c ws)).drop (((w.length : Int)).toNat + [c].length) = x ++ wordsR c ws := by
      rw [Int.toNat_natCast, List.drop_append]; simp
    rw [Lib.countFrom, index_at (h w (by simp)), if_neg (by simp), e, count_words (fun y hy => h y (List.mem_cons_of_mem _ hy)) (by simpa using hf)]
    omega

theorem split_words {c : UInt8} : ∀ {ws : List (List UInt8)} {w : List UInt8}, (∀ x ∈ w :: ws, c ∉ x) → Lib.splitK [c] 0 ws.length (w ++ wordsR c ws) = w :: ws
  | [], w, h => by
    show [w ++ []] = [w]
    rw [List.append_nil]
  | x :: ws, w, h => by
    show Lib.splitK [c] 0 (ws.length + 1) (w ++ c :: (x ++ wordsR c ws)) = _
    have e : (w ++ c :: (x ++ wordsR c ws)).drop (((w.length : Int)).toNat + [c].length) = x ++ wordsR c ws := by
      rw [Int.toNat_natCast, List.drop_append]; simp
    have e2 : (w ++ c :: (x ++ wordsR c ws)).take (((w.length : Int)).toNat + 0) = w := by simp
    rw [Lib.splitK, index_at (h w (by simp)), if_neg (by simp), e, e2, split_words fun y hy => h y (List.mem_cons_of_mem _ hy)]


/-- the squares' texts -/
def ctxs (p : Int) (s : Nat → Int) : Nat → List (List UInt8)
  | 0 => []
  | k + 1 => ctxs p s k ++ [ctx p (s k)]

theorem ctxs_len (p : Int) (s : Nat → Int) : ∀ n, (ctxs p s n).length = n
  | 0 => rfl
  | k + 1 => by rw [ctxs, List.length_append, ctxs_len p s k]; rfl

theorem ctxs_at (p : Int) (s : Nat → Int) : ∀ {n i : Nat}, i < n → (ctxs p s n)[i]? = some (ctx p (s i))
  | 0, i, h => absurd h (Nat.not_lt_zero _)
  | k + 1, i, h => by
    rw [ctxs]
    by_cases e : i < k
    · rw [List.getElem?_append_left (by rw [ctxs_len]; exact e), ctxs_at p s e]
    · obtain rfl : i = k := by omega
      rw [List.getElem?_append_right (by rw [ctxs_len]; exact Nat.le_refl _), ctxs_len, Nat.sub_self]; rfl

theorem ctxs_no {p : Int} {s : Nat → Int} {c : UInt8} (h45 : c.toNat ≠ 45) (hd : c.toNat < 48 ∨ 57 < c.toNat) : ∀ {n : Nat}, ∀ x ∈ ctxs p s n, c ∉ x
  | 0, x, hx => by cases hx
  | k + 1, x, hx => by
    rcases List.mem_append.1 hx with hx | hx
    · exact ctxs_no h45 hd x hx
    · rw [List.mem_singleton] at hx
      subst hx; exact ctx_no h45 hd

theorem txtL_eq (p : Int) (s : Nat → Int) : ∀ n, txtL p s n = Lib.itoa p ++ 58 :: wordsR 32 (ctxs p s n)
  | 0 => rfl
  | k + 1 => by
    rw [txtL, txtL_eq p s k, ctxs, wordsR_app]; simp

theorem words_no {p : Int} {s : Nat → Int} : ∀ {n : Nat}, (58 : UInt8) ∉ wordsR 32 (ctxs p s n)
  | 0, h => by cases h
  | k + 1, h => by
    rw [ctxs, wordsR_app] at h
    rcases List.mem_append.1 h with h | h
    · exact words_no h
    · rcases List.mem_cons.1 h with h | h
      · exact absurd h (by decide)
      · exact ctx_no (by decide) (by decide) h


/-- a text that is that of a space -/
structure PsOk (T : List UInt8) (p : Int) (n : Nat) (s : Nat → Int) : Prop where
  sp : spB p n s = true
  tx : txtL p s n = T


theorem ps_head {T : List UInt8} {p : Int} {n : Nat} {s : Nat → Int} (h : PsOk T p n s) : Lib.cut T [58] = (Lib.itoa p, wordsR 32 (ctxs p s n), true) := by
  rw [← h.tx, txtL_eq]
  exact cut_at (itoa_no (by decide) (by decide))

theorem ps_split {p : Int} {n : Nat} {s : Nat → Int} : Lib.split (wordsR 32 (ctxs p s n)) [32] = [] :: ctxs p s n := by
  have hno : ∀ x ∈ [] :: ctxs p s n, (32 : UInt8) ∉ x := fun x hx => by
    rcases List.mem_cons.1 hx with rfl | hx
    · simp
    · exact ctxs_no (by decide) (by decide) x hx
  have hl : ∀ (ws : List (List UInt8)), ws.length ≤ (wordsR 32 ws).length := fun ws => by
    induction ws with
    | nil => exact Nat.le_refl _
    | cons w ws ih => simp only [wordsR, List.length_cons, List.length_append]; omega
  have hc : Lib.count (wordsR 32 (ctxs p s n)) [32] = (ctxs p s n).length := by
    unfold Lib.count
    exact count_words (w := []) hno (by have := hl (ctxs p s n); omega)
  unfold Lib.split
  rw [hc]
  exact split_words (w := []) hno

theorem ps_inj {T : List UInt8} {p p' : Int} {n n' : Nat} {s s' : Nat → Int} (h : PsOk T p n s) (h' : PsOk T p' n' s') : p = p' ∧ n = n' ∧ ∀ i, i < n → s i = s' i := by
  have h1 := ps_head h
  rw [ps_head h'] at h1
  have e1 := (Prod.mk.inj h1).1
  have e2 := (Prod.mk.inj (Prod.mk.inj h1).2).1
  have hp := itoa_inj e1
  subst hp
  have e3 := congrArg (fun l => Lib.split l [32]) e2
  simp only [ps_split] at e3
  have e4 := (List.cons.inj e3).2
  have hn : n = n' := by rw [← ctxs_len p' s n, ← ctxs_len p' s' n', e4]
  subst hn
  have hs := spB_ok h.sp
  have hs' := spB_ok h'.sp
  refine ⟨rfl, rfl, fun i hi => ?_⟩
  have e5 := ctxs_at p' s hi
  rw [← e4, ctxs_at p' s' hi] at e5
  exact (ctx_inj hs.bd.1 (hs'.inp i hi) (hs.inp i hi) (Option.some.inj e5)).symm

end Go.Proofs.YtejbigdebjcomaaDoor
