/- Plain laws of texts: numerals, cuts at a byte, lines. -/
import Derived.Lib.ItoaMem
import Derived.Lib.AtoiAll
import Derived.Lib.Split
import Derived.Lib.Join
namespace Go.Proofs.YtpobjheodlkkiaaGreatDoor
open Go
set_option linter.unusedVariables false
set_option linter.unusedSimpArgs false

/-! ### cuts -/
def hdc (x : UInt8) : List (List UInt8) → List (List UInt8)
  | [] => [[x]]
  | p :: q => (x :: p) :: q
/-- a text cut at each byte c -/
def cutC (c : UInt8) : List UInt8 → List (List UInt8)
  | [] => [[]]
  | x :: r => if x = c then [] :: cutC c r else hdc x (cutC c r)
theorem cutC_ne (c : UInt8) : ∀ s, cutC c s ≠ []
  | [] => by simp [cutC]
  | x :: r => by
    unfold cutC
    split
    · simp
    · cases h : cutC c r with
      | nil => simp [hdc]
      | cons p q => simp [hdc]
theorem cutC_app (c : UInt8) (r : List UInt8) : ∀ p : List UInt8, c ∉ p → cutC c (p ++ c :: r) = p :: cutC c r
  | [], _ => by simp [cutC]
  | x :: p, h => by
    simp only [List.mem_cons, not_or] at h
    rw [List.cons_append, cutC, if_neg (fun e => h.1 e.symm), cutC_app c r p h.2]
    rfl
theorem cutC_none (c : UInt8) : ∀ p : List UInt8, c ∉ p → cutC c p = [p]
  | [], _ => by simp [cutC]
  | x :: p, h => by
    simp only [List.mem_cons, not_or] at h
    rw [cutC, if_neg (fun e => h.1 e.symm), cutC_none c p h.2]
    rfl
theorem cutC_len (c : UInt8) : ∀ s, (cutC c s).length ≤ s.length + 1
  | [] => by simp [cutC]
  | x :: r => by
    have := cutC_len c r
    unfold cutC
    split
    · simp; omega
    · cases h : cutC c r with
      | nil => simp [hdc]
      | cons p q => rw [h] at this; simp [hdc] at *; omega
theorem cutC_mem (c : UInt8) : ∀ s, ∀ p ∈ cutC c s, p.length ≤ s.length
  | [], p, h => by simp [cutC] at h; simp [h]
  | x :: r, p, h => by
    unfold cutC at h
    split at h
    · rcases List.mem_cons.1 h with rfl | h
      · simp
      · have := cutC_mem c r p h; simp; omega
    · have hm := cutC_mem c r
      cases h' : cutC c r with
      | nil => rw [h'] at h; simp [hdc] at h; simp [h]
      | cons a q =>
        rw [h'] at h hm
        simp only [hdc, List.mem_cons] at h
        rcases h with rfl | h
        · have := hm a (by simp); simp; omega
        · have := hm p (by simp [h]); simp; omega
/-- where the first byte c stands -/
theorem first_of {c : UInt8} : ∀ {s : List UInt8}, c ∈ s → ∃ p r, s = p ++ c :: r ∧ c ∉ p
  | [], h => by simp at h
  | x :: s, h => by
    by_cases e : x = c
    · exact ⟨[], s, by simp [e], by simp⟩
    · obtain ⟨p, r, h1, h2⟩ := first_of (s := s) (by simpa [Ne.symm e] using h)
      exact ⟨x :: p, r, by simp [h1], by simp [h2, Ne.symm e]⟩
theorem index_c_hit (c : UInt8) (r : List UInt8) : ∀ p : List UInt8, c ∉ p → Lib.index (p ++ c :: r) [c] = p.length
  | [], _ => by simp [Lib.index]
  | x :: p, h => by
    simp only [List.mem_cons, not_or] at h
    rw [List.cons_append, Lib.index, index_c_hit c r p h.2]
    have h1 : (c == x) = false := by simpa using h.1
    have h2 : (((p.length : Nat) : Int) == -1) = false := by rw [beq_eq_false_iff_ne]; omega
    simp [List.isPrefixOf, h1, h2]
theorem index_c_none (c : UInt8) : ∀ p : List UInt8, c ∉ p → Lib.index p [c] = -1
  | [], _ => by simp [Lib.index]
  | x :: p, h => by
    simp only [List.mem_cons, not_or] at h
    rw [Lib.index, index_c_none c p h.2]
    have h1 : (c == x) = false := by simpa using h.1
    simp [List.isPrefixOf, h1]
/-- strings.Split at one byte -/
theorem split_cut (c : UInt8) : ∀ (n : Nat) (s : List UInt8), s.length ≤ n → Lib.splitK [c] 0 (Lib.count s [c]) s = cutC c s := by
  intro n
  induction n with
  | zero =>
    intro s h
    have : s = [] := List.eq_nil_of_length_eq_zero (by omega)
    subst this
    rw [Lib.count_miss (by simp [Lib.index])]
    rfl
  | succ n ih =>
    intro s h
    by_cases hc : c ∈ s
    · obtain ⟨p, r, rfl, hp⟩ := first_of hc
      have hi := index_c_hit c r p hp
      have hd : (p ++ c :: r).drop (p.length + 1) = r := by rw [List.drop_append]; simp
      have hs : (p ++ c :: r).drop (p.length + [c].length) = r := hd
      rw [Lib.count_hit (by simp) hi, hs, Nat.add_comm 1, Lib.splitK, hi, cutC_app c r p hp]
      have h2 : ¬ (((p.length : Nat) : Int) == -1) = true := by rw [beq_iff_eq]; omega
      rw [if_neg h2, Int.toNat_natCast, hs, Nat.add_zero, ih r (by simp at h; omega)]
      rw [List.take_append]
      simp
    · have hi := index_c_none c s hc
      rw [Lib.count_miss hi, cutC_none c s hc]
      rfl
theorem count_cut (c : UInt8) (s : List UInt8) : Lib.count s [c] + 1 = (cutC c s).length := by
  have key : ∀ (n : Nat) (s : List UInt8), s.length ≤ n → Lib.count s [c] + 1 = (cutC c s).length := by
    intro n
    induction n with
    | zero =>
      intro s h
      have : s = [] := List.eq_nil_of_length_eq_zero (by omega)
      subst this
      rw [Lib.count_miss (by simp [Lib.index])]
      rfl
    | succ n ih =>
      intro s h
      by_cases hc : c ∈ s
      · obtain ⟨p, r, rfl, hp⟩ := first_of hc
        have hi := index_c_hit c r p hp
        have hd : (p ++ c :: r).drop (p.length + [c].length) = r := by rw [List.drop_append]; simp
        rw [Lib.count_hit (by simp) hi, hd, cutC_app c r p hp, List.length_cons, ← ih r (by simp at h; omega)]
        omega
      · rw [Lib.count_miss (index_c_none c s hc), cutC_none c s hc]; rfl
  exact key s.length s (Nat.le_refl _)
/-- pieces joined by a byte, cut again -/
theorem cutC_join (c : UInt8) : ∀ (ws : List (List UInt8)), ws ≠ [] → (∀ x ∈ ws, c ∉ x) → cutC c (Lib.join ws [c]) = ws
  | [], h, _ => absurd rfl h
  | [a], _, h => by simpa [Lib.join, List.intercalate] using cutC_none c a (h a (by simp))
  | a :: b :: l, _, h => by
    have := cutC_join c (b :: l) (by simp) (fun x hx => h x (by simp [List.mem_cons.1 hx]))
    have e : Lib.join (a :: b :: l) [c] = a ++ c :: Lib.join (b :: l) [c] := by simp [Lib.join, List.intercalate, List.intersperse]
    rw [e, cutC_app c _ a (h a (by simp)), this]

/-! ### lines: strings.Lines -/
def linesC : List UInt8 → List (List UInt8)
  | [] => []
  | x :: r => if x = 10 then [10] :: linesC r else hdc x (linesC r)
theorem linesC_app (r : List UInt8) : ∀ p : List UInt8, (10 : UInt8) ∉ p → linesC (p ++ 10 :: r) = (p ++ [10]) :: linesC r
  | [], _ => by simp [linesC]
  | x :: p, h => by
    simp only [List.mem_cons, not_or] at h
    rw [List.cons_append, linesC, if_neg (fun e => h.1 e.symm), linesC_app r p h.2]
    rfl
theorem linesC_none : ∀ p : List UInt8, (10 : UInt8) ∉ p → p ≠ [] → linesC p = [p]
  | [], _, h => absurd rfl h
  | x :: p, h, _ => by
    simp only [List.mem_cons, not_or] at h
    rw [linesC, if_neg (fun e => h.1 e.symm)]
    by_cases hp : p = []
    · subst hp; rfl
    · rw [linesC_none p h.2 hp]; rfl

/-! ### numerals -/
theorem dec_ne (u : Nat) : Lib.decDigits u ≠ [] := by
  rw [Lib.decDigits]; split <;> simp
theorem dec_digit : ∀ (u : Nat), ∀ c ∈ Lib.decDigits u, 48 ≤ c.toNat ∧ c.toNat ≤ 57 := by
  intro u
  induction u using Nat.strongRecOn with
  | _ u ih =>
    intro c hc
    rw [Lib.decDigits] at hc
    split at hc
    · simp at hc; subst hc; simp; omega
    · rcases List.mem_append.1 hc with h | h
      · exact ih (u / 10) (by omega) c h
      · simp at h; subst h; simp; omega
/-- the digits spelled -/
def spell (acc : Nat) : List UInt8 → Nat
  | [] => acc
  | c :: r => spell (acc * 10 + (c.toNat - 48)) r
theorem spell_app (l : List UInt8) : ∀ (acc : Nat) (r : List UInt8), spell acc (l ++ r) = spell (spell acc l) r := by
  induction l with
  | nil => intro acc r; rfl
  | cons c l ih => intro acc r; exact ih _ r
theorem spell_dec : ∀ (u : Nat), spell 0 (Lib.decDigits u) = u := by
  intro u
  induction u using Nat.strongRecOn with
  | _ u ih =>
    by_cases h : u < 10
    · rw [Lib.decDigits, dif_pos h]
      have e : (UInt8.ofNat (48 + u)).toNat - 48 = u := by simp; omega
      show 0 * 10 + ((UInt8.ofNat (48 + u)).toNat - 48) = u
      rw [e]; omega
    · have h1 := ih (u / 10) (by omega)
      have e : (UInt8.ofNat (48 + u % 10)).toNat - 48 = u % 10 := by simp; omega
      rw [Lib.decDigits, dif_neg h]
      refine (spell_app (Lib.decDigits (u / 10)) 0 _).trans ?_
      generalize spell 0 (Lib.decDigits (u / 10)) = v at h1 ⊢
      subst h1
      show u / 10 * 10 + ((UInt8.ofNat (48 + u % 10)).toNat - 48) = u
      rw [e]; omega
theorem spell_ge : ∀ (l : List UInt8) (acc : Nat), acc ≤ spell acc l
  | [], acc => Nat.le_refl _
  | c :: r, acc => by
    have := spell_ge r (acc * 10 + (c.toNat - 48))
    show acc ≤ spell _ r
    omega
theorem parse_spell : ∀ (l : List UInt8) (acc : Nat), (∀ c ∈ l, 48 ≤ c.toNat ∧ c.toNat ≤ 57) → spell acc l < 18446744073709551616 → Lib.parseUint10 acc l = .ok (spell acc l)
  | [], acc, _, _ => rfl
  | c :: r, acc, hd, h => by
    have h0 := hd c (by simp)
    have h1 : spell (acc * 10 + (c.toNat - 48)) r < 18446744073709551616 := h
    have h2 := spell_ge r (acc * 10 + (c.toNat - 48))
    have ih := parse_spell r (acc * 10 + (c.toNat - 48)) (fun x hx => hd x (by simp [hx])) h1
    have g1 : ¬ 1844674407370955162 ≤ acc := by omega
    have g2 : ¬ 18446744073709551616 ≤ acc * 10 + (c.toNat - 48) := by omega
    simp only [Lib.parseUint10, if_pos h0, if_neg g1, if_neg g2]
    exact ih
theorem parse_dec (u : Nat) (h : u < 18446744073709551616) : Lib.parseMag (Lib.decDigits u) = .ok u := by
  unfold Lib.parseMag
  rw [if_neg (dec_ne u), parse_spell _ 0 (dec_digit u) (by rw [spell_dec]; exact h), spell_dec]
/-- Atoi of Itoa -/
theorem atoi_itoa (n : Int) (h0 : -9223372036854775808 ≤ n) (h1 : n ≤ 9223372036854775807) : Lib.atoiAll (Lib.itoa n) = .ok n := by
  unfold Lib.itoa
  split
  · rename_i hn
    have e : (45 : UInt8).toNat = 45 := by decide
    have e2 : (45 : UInt8).toNat = 43 ∨ (45 : UInt8).toNat = 45 := Or.inr e
    unfold Lib.atoiAll
    simp only [if_pos e2, parse_dec _ (show n.natAbs < 18446744073709551616 by omega)]
    simp only [e, not_true_eq_false, false_and, if_false, true_and]
    rw [if_neg (by omega)]
    simp only [if_true]
    congr 1; omega
  · rename_i hn
    cases hd : Lib.decDigits n.toNat with
    | nil => exact absurd hd (dec_ne _)
    | cons c r =>
      have hc := dec_digit n.toNat c (by rw [hd]; simp)
      unfold Lib.atoiAll
      simp only
      rw [if_neg (by omega), ← hd, parse_dec _ (by omega)]
      have e : ¬ c.toNat = 45 := by omega
      simp only [e, not_false_eq_true, true_and, false_and, if_false]
      rw [if_neg (by omega)]
      congr 1; omega
/-- the number that Atoi tells, whatever the error -/
def atoiV (l : List UInt8) : Int := match Lib.atoiAll l with | .ok v => v | .range => Lib.atoiSat l | _ => 0
theorem atoiV_itoa (n : Int) (h0 : -9223372036854775808 ≤ n) (h1 : n ≤ 9223372036854775807) : atoiV (Lib.itoa n) = n := by
  unfold atoiV; rw [atoi_itoa n h0 h1]
theorem itoa_bytes (n : Int) : ∀ c ∈ Lib.itoa n, c.toNat = 45 ∨ 48 ≤ c.toNat ∧ c.toNat ≤ 57 := by
  intro c hc
  unfold Lib.itoa at hc
  split at hc
  · rcases List.mem_cons.1 hc with rfl | h
    · exact Or.inl (by decide)
    · exact Or.inr (dec_digit _ c h)
  · exact Or.inr (dec_digit _ c hc)
theorem itoa_no (n : Int) (b : UInt8) (h : b.toNat ≠ 45 ∧ ¬ (48 ≤ b.toNat ∧ b.toNat ≤ 57)) : b ∉ Lib.itoa n := fun hm => by
  rcases itoa_bytes n b hm with h1 | h1
  · exact h.1 h1
  · exact h.2 h1
theorem itoa_ne (n : Int) : Lib.itoa n ≠ [] := by
  unfold Lib.itoa
  split
  · simp
  · exact dec_ne _
theorem dec_len (u : Nat) (k : Nat) (h : u < 10 ^ (k + 1)) : (Lib.decDigits u).length ≤ k + 1 := by
  rw [Lib.decDigits_length]
  induction k generalizing u with
  | zero => rw [Lib.nDigits_small (by simpa using h)]; omega
  | succ k ih =>
    by_cases hu : u < 10
    · rw [Lib.nDigits_small hu]; omega
    · rw [Lib.nDigits_big hu]
      have := ih (u / 10) (by rw [Nat.pow_succ] at h; omega)
      omega
end Go.Proofs.YtpobjheodlkkiaaGreatDoor
