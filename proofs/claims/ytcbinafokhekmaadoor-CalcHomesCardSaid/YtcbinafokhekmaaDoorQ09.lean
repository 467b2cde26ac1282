/- TxA; TxB; TxC; ItXI (merged by group.py) -/
import Derived.Lib.ItoaMem
import Derived.Lib.AtoiAll
import Derived.Lib.Split
import Derived.Lib.Join
import Derived.Test.YtcbinafokhekmaaDoorQ00
import Derived.Laws.Runes
import Derived.Test.YtcbinafokhekmaaDoorQ05
import Derived.Test.YtcbinafokhekmaaDoorQ06
import Derived.Test.YtcbinafokhekmaaDoorQ08
import Derived.Laws.BytesArg
namespace Go.Proofs.YtcbinafokhekmaaDoor
section
open Go
set_option linter.unusedVariables false
set_option maxRecDepth 20000
set_option linter.unusedSimpArgs false

/-! ### cuts -/
def hdc (x : UInt8) : List (List UInt8) → List (List UInt8)
  | [] => [[x]]
  | p :: q => (x :: p) :: q
/-- a text cut at each byte c -/
def cutC (c : UInt8) : List UInt8 → List (List UInt8)
  | [] => [[]]
  | x :: r => if x = c then [] :: cutC c r else hdc x (cutC c r)
theorem cutC_ne (c : UInt8) : ∀ s, cutC c s ≠ []
  | [] => by simp [cutC]
  | x :: r => by
    unfold cutC
    split
    · simp
    · cases h : cutC c r with
      | nil => simp [hdc]
      | cons p q => simp [hdc]
theorem cutC_app (c : UInt8) (r : List UInt8) : ∀ p : List UInt8, c ∉ p → cutC c (p ++ c :: r) = p :: cutC c r
  | [], _ => by simp [cutC]
  | x :: p, h => by
    simp only [List.mem_cons, not_or] at h
    rw [List.cons_append, cutC, if_neg (fun e => h.1 e.symm), cutC_app c r p h.2]
    rfl
theorem cutC_none (c : UInt8) : ∀ p : List UInt8, c ∉ p → cutC c p = [p]
  | [], _ => by simp [cutC]
  | x :: p, h => by
    simp only [List.mem_cons, not_or] at h
    rw [cutC, if_neg (fun e => h.1 e.symm), cutC_none c p h.2]
    rfl
theorem cutC_len (c : UInt8) : ∀ s, (cutC c s).length ≤ s.length + 1
  | [] => by simp [cutC]
  | x :: r => by
    have := cutC_len c r
    unfold cutC
    split
    · simp; omega
    · cases h : cutC c r with
      | nil => simp [hdc]
      | cons p q => rw [h] at this; simp [hdc] at *; omega
theorem cutC_mem (c : UInt8) : ∀ s, ∀ p ∈ cutC c s, p.length ≤ s.length
  | [], p, h => by simp [cutC] at h; simp [h]
  | x :: r, p, h => by
    unfold cutC at h
    split at h
    · rcases List.mem_cons.1 h with rfl | h
      · simp
      · have := cutC_mem c r p h; simp; omega
    · have hm := cutC_mem c r
      cases h' : cutC c r with
      | nil => rw [h'] at h; simp [hdc] at h; simp [h]
      | cons a q =>
        rw [h'] at h hm
        simp only [hdc, List.mem_cons] at h
        rcases h with rfl | h
        · have := hm a (by simp); simp; omega
        · have := hm p (by simp [h]); simp; omega
/-- where the first byte c stands -/
theorem first_of {c : UInt8} : ∀ {s : List UInt8}, c ∈ s → ∃ p r, s = p ++ c :: r ∧ c ∉ p
  | [], h => by simp at h
  | x :: s, h => by
    by_cases e : x = c
    · exact ⟨[], s, by simp [e], by simp⟩
    · obtain ⟨p, r, h1, h2⟩ := first_of (s := s) (by simpa [Ne.symm e] using h)
      exact ⟨x :: p, r, by simp [h1], by simp [h2, Ne.symm e]⟩
theorem index_c_hit (c : UInt8) (r : List UInt8) : ∀ p : List UInt8, c ∉ p → Lib.index (p ++ c :: r) [c] = p.length
  | [], _ => by simp [Lib.index]
  | x :: p, h => by
    simp only [List.mem_cons, not_or] at h
    rw [List.cons_append, Lib.index, index_c_hit c r p h.2]
    have h1 : (c == x) = false := by simpa using h.1
    have h2 : (((p.length : Nat) : Int) == -1) = false := by rw [beq_eq_false_iff_ne]; omega
    simp [List.isPrefixOf, h1, h2]
theorem index_c_none (c : UInt8) : ∀ p : List UInt8, c ∉ p → Lib.index p [c] = -1
  | [], _ => by simp [Lib.index]
  | x :: p, h => by
    simp only [List.mem_cons, not_or] at h
    rw [Lib.index, index_c_none c p h.2]
    have h1 : (c == x) = false := by simpa using h.1
    simp [List.isPrefixOf, h1]
/-- strings.Split at one byte -/
theorem split_cut (c : UInt8) : ∀ (n : Nat) (s : List UInt8), s.length ≤ n → Lib.splitK [c] 0 (Lib.count s [c]) s = cutC c s := by
  intro n
  induction n with
  | zero =>
    intro s h
    have : s = [] := List.eq_nil_of_length_eq_zero (by omega)
    subst this
    rw [Lib.count_miss (by simp [Lib.index])]
    rfl
  | succ n ih =>
    intro s h
    by_cases hc : c ∈ s
    · obtain ⟨p, r, rfl, hp⟩ := first_of hc
      have hi := index_c_hit c r p hp
      have hd : (p ++ c :: r).drop (p.length + 1) = r := by rw [List.drop_append]; simp
      have hs : (p ++ c :: r).drop (p.length + [c].length) = r := hd
      rw [Lib.count_hit (by simp) hi, hs, Nat.add_comm 1, Lib.splitK, hi, cutC_app c r p hp]
      have h2 : ¬ (((p.length : Nat) : Int) == -1) = true := by rw [beq_iff_eq]; omega
      rw [if_neg h2, Int.toNat_natCast, hs, Nat.add_zero, ih r (by simp at h; omega)]
      rw [List.take_append]
      simp
    · have hi := index_c_none c s hc
      rw [Lib.count_miss hi, cutC_none c s hc]
      rfl
theorem count_cut (c : UInt8) (s : List UInt8) : Lib.count s [c] + 1 = (cutC c s).length := by
  have key : ∀ (n : Nat) (s : List UInt8), s.length ≤ n → Lib.count s [c] + 1 = (cutC c s).length := by
    intro n
    induction n with
    | zero =>
      intro s h
      have : s = [] := List.eq_nil_of_length_eq_zero (by omega)
      subst this
      rw [Lib.count_miss (by simp [Lib.index])]
      rfl
    | succ n ih =>
      intro s h
      by_cases hc : c ∈ s
      · obtain ⟨p, r, rfl, hp⟩ := first_of hc
        have hi := index_c_hit c r p hp
        have hd : (p ++ c :: r).drop (p.length + [c].length) = r := by rw [List.drop_append]; simp
        rw [Lib.count_hit (by simp) hi, hd, cutC_app c r p hp, List.length_cons, ← ih r (by simp at h; omega)]
        omega
      · rw [Lib.count_miss (index_c_none c s hc), cutC_none c s hc]; rfl
  exact key s.length s (Nat.le_refl _)
/-- pieces joined by a byte, cut again -/
theorem cutC_join (c : UInt8) : ∀ (ws : List (List UInt8)), ws ≠ [] → (∀ x ∈ ws, c ∉ x) → cutC c (Lib.join ws [c]) = ws
  | [], h, _ => absurd rfl h
  | [a], _, h => by simpa [Lib.join, List.intercalate] using cutC_none c a (h a (by simp))
  | a :: b :: l, _, h => by
    have := cutC_join c (b :: l) (by simp) (fun x hx => h x (by simp [List.mem_cons.1 hx]))
    have e : Lib.join (a :: b :: l) [c] = a ++ c :: Lib.join (b :: l) [c] := by simp [Lib.join, List.intercalate, List.intersperse]
    rw [e, cutC_app c _ a (h a (by simp)), this]

/-! ### lines: strings.Lines -/
def linesC : List UInt8 → List (List UInt8)
  | [] => []
  | x :: r => if x = 10 then [10] :: linesC r else hdc x (linesC r)
theorem linesC_app (r : List UInt8) : ∀ p : List UInt8, (10 : UInt8) ∉ p → linesC (p ++ 10 :: r) = (p ++ [10]) :: linesC r
  | [], _ => by simp [linesC]
  | x :: p, h => by
    simp only [List.mem_cons, not_or] at h
    rw [List.cons_append, linesC, if_neg (fun e => h.1 e.symm), linesC_app r p h.2]
    rfl
theorem linesC_none : ∀ p : List UInt8, (10 : UInt8) ∉ p → p ≠ [] → linesC p = [p]
  | [], _, h => absurd rfl h
  | x :: p, h, _ => by
    simp only [List.mem_cons, not_or] at h
    rw [linesC, if_neg (fun e => h.1 e.symm)]
    by_cases hp : p = []
    · subst hp; rfl
    · rw [linesC_none p h.2 hp]; rfl

/-! ### numerals -/
theorem dec_ne (u : Nat) : Lib.decDigits u ≠ [] := by
  rw [Lib.decDigits]; split <;> simp
theorem dec_digit : ∀ (u : Nat), ∀ c ∈ Lib.decDigits u, 48 ≤ c.toNat ∧ c.toNat ≤ 57 := by
  intro u
  induction u using Nat.strongRecOn with
  | _ u ih =>
    intro c hc
    rw [Lib.decDigits] at hc
    split at hc
    · simp at hc; subst hc; simp; omega
    · rcases List.mem_append.1 hc with h | h
      · exact ih (u / 10) (by omega) c h
      · simp at h; subst h; simp; omega
/-- the digits spelled -/
def spell (acc : Nat) : List UInt8 → Nat
  | [] => acc
  | c :: r => spell (acc * 10 + (c.toNat - 48)) r
theorem spell_app (l : List UInt8) : ∀ (acc : Nat) (r : List UInt8), spell acc (l ++ r) = spell (spell acc l) r := by
  induction l with
  | nil => intro acc r; rfl
  | cons c l ih => intro acc r; exact ih _ r
theorem spell_dec : ∀ (u : Nat), spell 0 (Lib.decDigits u) = u := by
  intro u
  induction u using Nat.strongRecOn with
  | _ u ih =>
    by_cases h : u < 10
    · rw [Lib.decDigits, dif_pos h]
      have e : (UInt8.ofNat (48 + u)).toNat - 48 = u := by simp; omega
      show 0 * 10 + ((UInt8.ofNat (48 + u)).toNat - 48) = u
      rw [e]; omega
    · have h1 := ih (u / 10) (by omega)
      have e : (UInt8.ofNat (48 + u % 10)).toNat - 48 = u % 10 := by simp; omega
      rw [Lib.decDigits, dif_neg h]
      refine (spell_app (Lib.decDigits (u / 10)) 0 _).trans ?_
      generalize spell 0 (Lib.decDigits (u / 10)) = v at h1 ⊢
      subst h1
      show u / 10 * 10 + ((UInt8.ofNat (48 + u % 10)).toNat - 48) = u
      rw [e]; omega
theorem spell_ge : ∀ (l : List UInt8) (acc : Nat), acc ≤ spell acc l
  | [], acc => Nat.le_refl _
  | c :: r, acc => by
    have := spell_ge r (acc * 10 + (c.toNat - 48))
    show acc ≤ spell _ r
    omega
theorem parse_spell : ∀ (l : List UInt8) (acc : Nat), (∀ c ∈ l, 48 ≤ c.toNat ∧ c.toNat ≤ 57) → spell acc l < 18446744073709551616 → Lib.parseUint10 acc l = .ok (spell acc l)
  | [], acc, _, _ => rfl
  | c :: r, acc, hd, h => by
    have h0 := hd c (by simp)
    have h1 : spell (acc * 10 + (c.toNat - 48)) r < 18446744073709551616 := h
    have h2 := spell_ge r (acc * 10 + (c.toNat - 48))
    have ih := parse_spell r (acc * 10 + (c.toNat - 48)) (fun x hx => hd x (by simp [hx])) h1
    have g1 : ¬ 1844674407370955162 ≤ acc := by omega
    have g2 : ¬ 18446744073709551616 ≤ acc * 10 + (c.toNat - 48) := by omega
    simp only [Lib.parseUint10, if_pos h0, if_neg g1, if_neg g2]
    exact ih
theorem parse_dec (u : Nat) (h : u < 18446744073709551616) : Lib.parseMag (Lib.decDigits u) = .ok u := by
  unfold Lib.parseMag
  rw [if_neg (dec_ne u), parse_spell _ 0 (dec_digit u) (by rw [spell_dec]; exact h), spell_dec]
/-- Atoi of Itoa -/
theorem atoi_itoa (n : Int) (h0 : -9223372036854775808 ≤ n) (h1 : n ≤ 9223372036854775807) : Lib.atoiAll (Lib.itoa n) = .ok n := by
  unfold Lib.itoa
  split
  · rename_i hn
    have e : (45 : UInt8).toNat = 45 := by decide
    have e2 : (45 : UInt8).toNat = 43 ∨ (45 : UInt8).toNat = 45 := Or.inr e
    unfold Lib.atoiAll
    simp only [if_pos e2, parse_dec _ (show n.natAbs < 18446744073709551616 by omega)]
    simp only [e, not_true_eq_false, false_and, if_false, true_and]
    rw [if_neg (by omega)]
    simp only [if_true]
    congr 1; omega
  · rename_i hn
    cases hd : Lib.decDigits n.toNat with
    | nil => exact absurd hd (dec_ne _)
    | cons c r =>
      have hc := dec_digit n.toNat c (by rw [hd]; simp)
      unfold Lib.atoiAll
      simp only
      rw [if_neg (by omega), ← hd, parse_dec _ (by omega)]
      have e : ¬ c.toNat = 45 := by omega
      simp only [e, not_false_eq_true, true_and, false_and, if_false]
      rw [if_neg (by omega)]
      congr 1; omega
/-- the number that Atoi tells, whatever the error -/
def atoiV (l : List UInt8) : Int := match Lib.atoiAll l with | .ok v => v | .range => Lib.atoiSat l | _ => 0
theorem atoiV_itoa (n : Int) (h0 : -9223372036854775808 ≤ n) (h1 : n ≤ 9223372036854775807) : atoiV (Lib.itoa n) = n := by
  unfold atoiV; rw [atoi_itoa n h0 h1]
theorem itoa_bytes (n : Int) : ∀ c ∈ Lib.itoa n, c.toNat = 45 ∨ 48 ≤ c.toNat ∧ c.toNat ≤ 57 := by
  intro c hc
  unfold Lib.itoa at hc
  split at hc
  · rcases List.mem_cons.1 hc with rfl | h
    · exact Or.inl (by decide)
    · exact Or.inr (dec_digit _ c h)
  · exact Or.inr (dec_digit _ c hc)
theorem itoa_no (n : Int) (b : UInt8) (h : b.toNat ≠ 45 ∧ ¬ (48 ≤ b.toNat ∧ b.toNat ≤ 57)) : b ∉ Lib.itoa n := fun hm => by
  rcases itoa_bytes n b hm with h1 | h1
  · exact h.1 h1
  · exact h.2 h1
theorem itoa_ne (n : Int) : Lib.itoa n ≠ [] := by
  unfold Lib.itoa
  split
  · simp
  · exact dec_ne _
theorem dec_len (u : Nat) (k : Nat) (h : u < 10 ^ (k + 1)) : (Lib.decDigits u).length ≤ k + 1 := by
  rw [Lib.decDigits_length]
  induction k generalizing u with
  | zero => rw [Lib.nDigits_small (by simpa using h)]; omega
  | succ k ih =>
    by_cases hu : u < 10
    · rw [Lib.nDigits_small hu]; omega
    · rw [Lib.nDigits_big hu]
      have := ih (u / 10) (by rw [Nat.pow_succ] at h; omega)
      omega
end
section
open Go
set_option linter.unusedVariables false
set_option maxRecDepth 20000
set_option linter.unusedSimpArgs false

def isDg (c : UInt8) : Bool := decide (48 ≤ c.toNat) && decide (c.toNat ≤ 57)
/-- the digits at the front, 17 at most -/
def dgs (t : List UInt8) : List UInt8 := (t.take 17).takeWhile isDg
/-- a number at the front: its value, and how many bytes it has -/
def magF (minus : Bool) (t : List UInt8) : Int × Int :=
  if dgs t = [] ∨ 1 < (dgs t).length ∧ t.head? = some 48 ∨ minus = true ∧ spell 0 (dgs t) = 0 ∨ 17 ≤ (dgs t).length then (0, 0)
  else (if minus then -(spell 0 (dgs t) : Int) else spell 0 (dgs t), (dgs t).length + (if minus then 1 else 0))
def numF (t : List UInt8) : Int × Int := if t.head? = some 45 then magF true t.tail else magF false t
def wholeF (t : List UInt8) : Int × Bool := ((numF t).1, decide (0 < (numF t).2) && decide ((numF t).2 = t.length))
theorem takeWhile_all {l : List UInt8} (h : ∀ c ∈ l, isDg c = true) : l.takeWhile isDg = l := by
  induction l with
  | nil => rfl
  | cons c l ih => simp [List.takeWhile, h c (by simp), ih (fun x hx => h x (by simp [hx]))]
theorem dgs_all {l : List UInt8} (h : ∀ c ∈ l, isDg c = true) (hl : l.length ≤ 17) : dgs l = l := by
  unfold dgs
  rw [List.take_of_length_le hl, takeWhile_all h]
theorem dec_isDg (u : Nat) : ∀ c ∈ Lib.decDigits u, isDg c = true := fun c hc => by
  have := dec_digit u c hc
  simp [isDg, this]
theorem dec_head : ∀ (u : Nat), 1 ≤ u → (Lib.decDigits u).head? ≠ some 48 := by
  intro u
  induction u using Nat.strongRecOn with
  | _ u ih =>
    intro h1
    by_cases h : u < 10
    · rw [Lib.decDigits, dif_pos h]
      intro e
      simp only [List.head?_cons, Option.some.injEq] at e
      have := congrArg UInt8.toNat e
      simp at this
      omega
    · rw [Lib.decDigits, dif_neg h]
      have h2 := ih (u / 10) (by omega) (by omega)
      cases hd : Lib.decDigits (u / 10) with
      | nil => exact absurd hd (dec_ne _)
      | cons c r => rw [hd] at h2; simpa using h2
theorem mag_dec (u : Nat) (hu : u < 10000000000000000) (minus : Bool) (hm : minus = true → 1 ≤ u) :
    magF minus (Lib.decDigits u) = (if minus then -(u : Int) else u, ((Lib.decDigits u).length : Int) + (if minus then 1 else 0)) := by
  have hl := dec_len u 15 (by omega)
  have hd := dgs_all (dec_isDg u) (by omega)
  unfold magF
  rw [hd, spell_dec, if_neg]
  rintro (h | ⟨h1, h2⟩ | ⟨h1, h2⟩ | h)
  · exact dec_ne u h
  · by_cases h0 : 1 ≤ u
    · exact dec_head u h0 h2
    · have : u = 0 := by omega
      subst this
      rw [Lib.decDigits, dif_pos (by omega)] at h1
      simp at h1
  · have := hm h1; omega
  · omega
/-- Whole of Decimal -/
theorem whole_itoa (n : Int) (h0 : -10000000000000000 < n) (h1 : n < 10000000000000000) : wholeF (Lib.itoa n) = (n, true) := by
  by_cases hn : n < 0
  · have e : Lib.itoa n = 45 :: Lib.decDigits n.natAbs := by unfold Lib.itoa; rw [if_pos hn]
    have hm := mag_dec n.natAbs (by omega) true (by omega)
    have hp : 1 ≤ (Lib.decDigits n.natAbs).length := by
      cases h : Lib.decDigits n.natAbs with
      | nil => exact absurd h (dec_ne _)
      | cons c r => simp
    unfold wholeF numF
    rw [e, List.head?_cons, if_pos rfl, List.tail_cons, hm, List.length_cons]
    simp only [if_true]
    congr 1
    · omega
    · simp
  · have e : Lib.itoa n = Lib.decDigits n.toNat := by unfold Lib.itoa; rw [if_neg hn]
    have hm := mag_dec n.toNat (by omega) false (by simp)
    have hh : (Lib.decDigits n.toNat).head? ≠ some 45 := by
      cases h : Lib.decDigits n.toNat with
      | nil => simp
      | cons c r =>
        have := dec_digit n.toNat c (by rw [h]; simp)
        intro e; simp at e; subst e; simp at this
    have hp : 1 ≤ (Lib.decDigits n.toNat).length := by
      cases h : Lib.decDigits n.toNat with
      | nil => exact absurd h (dec_ne _)
      | cons c r => simp
    unfold wholeF numF
    rw [e, if_neg hh, hm]
    congr 1
    · simp; omega
    · simp; omega
end
section
open Go.RowKit
set_option linter.unusedVariables false
set_option maxRecDepth 20000
set_option linter.unusedSimpArgs false
set_option linter.unusedSectionVars false
set_option maxRecDepth 100000
attribute [local go_sem] Oper.semAt_some

theorem enc_dig : ∀ d : Fin 10, (Utf8.encode (48 + (d.val : Int))).data = #[UInt8.ofNat (48 + d.val)] := by decide +kernel
theorem enc_digit (d : Nat) (h : d < 10) : Utf8.encode (48 + (d : Int)) = ⟨#[UInt8.ofNat (48 + d)]⟩ := ByteArray.ext (enc_dig ⟨d, h⟩)
theorem str_app (a b : List UInt8) : ((⟨a.toArray⟩ : ByteArray) ++ ⟨b.toArray⟩) = ⟨(a ++ b).toArray⟩ := by
  apply ByteArray.ext
  simp
theorem dec_step (u : Nat) (h : ¬ u < 10) (r : List UInt8) : Lib.decDigits (u / 10) ++ UInt8.ofNat (48 + u % 10) :: r = Lib.decDigits u ++ r := by
  rw [Lib.decDigits.eq_def u, dif_neg h]; simp
/-- what is left of a number's digits -/
def DecRel (n k : Nat) (S : ByteArray) : Prop := Lib.decDigits k ++ S.data.toList = Lib.decDigits n
theorem DecRel.size {n k : Nat} {S : ByteArray} (h : DecRel n k S) (hn : n ≤ 9223372036854775807) : S.size ≤ 20 := by
  have := congrArg List.length h
  rw [List.length_append] at this
  have h2 := dec_len n 18 (by omega)
  have h3 : S.data.toList.length = S.size := by simp
  omega
theorem app_toList (a b : ByteArray) : (a ++ b).data.toList = a.data.toList ++ b.data.toList := by simp
/-- a number that is not negative -/
theorem rdec_nat (n : Nat) (hn : n ≤ 9223372036854775807) (w : World) :
    Calls Tryd.prog 65 #[.int .i64 n] w fun e w' => e = .returned (.string ⟨(Lib.decDigits n).toArray⟩) ∧ w = w' := by
  have c0 : ((n : Int) == -9223372036854775808) = false := by rw [beq_eq_false_iff_ne]; omega
  have c1 : ¬ (n : Int) < 0 := by omega
  go_enter Tryd.func65, Tryd.ntmps65
  go_wp2
  clear c0 c1
  go_loop [0, 3] (fun i v => ∃ (k : Nat) (S : ByteArray), k ≤ n ∧ i = .int .i64 k ∧ v = .string S ∧ DecRel n k S) (fun i _ => (intOf i).toNat)
  case atStart => exact ⟨n, ⟨#[]⟩, Nat.le_refl _, rfl, rfl, by simp [DecRel]⟩
  case round =>
    obtain ⟨k, S, hk, rfl, rfl, hr⟩ := hrel
    by_cases h : k < 10
    · have c2 : ¬ (10 : Int) ≤ k := by omega
      have d1 : IntKind.i64.wrap (48 + (k : Int)) = 48 + (k : Int) := IntWalk.i64_in _ ⟨by omega, by omega⟩
      have d2 : IntKind.i32.wrap (48 + (k : Int)) = 48 + (k : Int) := by simp [IntKind.wrap, IntKind.bits, IntKind.signed]; omega
      have HE := enc_digit k h
      obtain ⟨D, hD⟩ : ∃ D, (⟨#[UInt8.ofNat (48 + k)]⟩ : ByteArray) = D := ⟨_, rfl⟩
      rw [hD] at HE
      have HR : Hid (D ++ S = ⟨(Lib.decDigits n).toArray⟩) := Lib.hid (by
        apply ByteArray.ext
        apply Array.ext'
        rw [app_toList, ← hD, ← hr, Lib.decDigits, dif_pos h])
      have hz := hr.size hn
      have hd1 : D.size = 1 := by rw [← hD]; rfl
      have hlim : ¬ 9223372036854775807 < D.size + S.size := by omega
      clear hd1
      clear hr hD
      go_wp2
      go_ret
      exact ⟨by rw [HR.out]; rfl, rfl⟩
    · have c2 : (10 : Int) ≤ k := by omega
      obtain ⟨m, hm⟩ : ∃ m : Nat, k % 10 = m := ⟨_, rfl⟩
      obtain ⟨q, hq⟩ : ∃ q : Nat, k / 10 = q := ⟨_, rfl⟩
      have e1 : (k : Int) % 10 = m := by omega
      have e2 : (k : Int) / 10 = q := by omega
      have HE := enc_digit m (by omega)
      obtain ⟨D, hD⟩ : ∃ D, (⟨#[UInt8.ofNat (48 + m)]⟩ : ByteArray) = D := ⟨_, rfl⟩
      rw [hD] at HE
      have HR : Hid (DecRel n q (D ++ S)) := Lib.hid (by
        unfold DecRel at hr ⊢
        rw [app_toList, ← hD, ← hq, ← hr]
        have := dec_step k h S.data.toList
        rw [hm] at this
        exact this)
      have hz := hr.size hn
      have hd1 : D.size = 1 := by rw [← hD]; rfl
      have hlim : ¬ 9223372036854775807 < D.size + S.size := by omega
      clear hd1
      clear hr hD
      go_wp2
      go_round
      case rel => exact ⟨q, D ++ S, by omega, rfl, rfl, HR.out⟩
      case measure => simp [intOf]; omega
/-- Decimal of the reference -/
theorem rdec_any (n : Int) (h0 : -9223372036854775808 ≤ n) (h1 : n ≤ 9223372036854775807) (w : World) :
    Calls Tryd.prog 65 #[.int .i64 n] w fun e w' => e = .returned (.string ⟨(Lib.itoa n).toArray⟩) ∧ w = w' := by
  by_cases hm : n = -9223372036854775808
  · subst hm
    have HR : Hid ((⟨(Lib.itoa (-9223372036854775808)).toArray⟩ : ByteArray) = ⟨#[45,57,50,50,51,51,55,50,48,51,54,56,53,52,55,55,53,56,48,56]⟩) := Lib.hid (by
      have : Lib.itoa (-9223372036854775808) = [45,57,50,50,51,51,55,50,48,51,54,56,53,52,55,55,53,56,48,56] := by
        unfold Lib.itoa
        rw [if_pos (by decide), show (-9223372036854775808 : Int).natAbs = 9223372036854775808 by decide]
        rw [Lib.decDigits_eq, Lib.nDigits_unique 18 _ (by decide) (by decide)]
        decide +kernel
      rw [this])
    go_enter Tryd.func65, Tryd.ntmps65
    go_wp2
    go_ret
    exact ⟨by rw [HR.out]; rfl, rfl⟩
  · by_cases hn : n < 0
    · have c0 : (n == -9223372036854775808) = false := by rw [beq_eq_false_iff_ne]; exact hm
      have e1 : IntKind.i64.wrap (-n) = ((n.natAbs : Nat) : Int) := (IntWalk.i64_in _ ⟨by omega, by omega⟩).trans (by omega)
      have HD := rdec_nat n.natAbs (by omega) w
      obtain ⟨D, hD⟩ : ∃ D, (⟨(Lib.decDigits n.natAbs).toArray⟩ : ByteArray) = D := ⟨_, rfl⟩
      have HR : Hid ((⟨#[45]⟩ : ByteArray) ++ D = ⟨(Lib.itoa n).toArray⟩) := Lib.hid (by
        rw [← hD]
        have : Lib.itoa n = 45 :: Lib.decDigits n.natAbs := by unfold Lib.itoa; rw [if_pos hn]
        rw [this]
        apply ByteArray.ext
        simp)
      have hz : D.size ≤ 20 := by
        rw [← hD]
        have := dec_len n.natAbs 18 (by omega)
        show (Lib.decDigits n.natAbs).toArray.size ≤ 20
        simp; omega
      have hlim : ¬ 9223372036854775807 < 1 + D.size := by omega
      rw [hD] at HD
      clear hD
      obtain ⟨m, hm2⟩ : ∃ m : Nat, n.natAbs = m := ⟨_, rfl⟩
      rw [hm2] at e1 HD
      clear hm2
      go_enter Tryd.func65, Tryd.ntmps65
      go_wp2_with (go_at_call 65; refine HD.mono ?_; rintro e w1 ⟨rfl, rfl⟩)
      go_ret
      exact ⟨by rw [HR.out]; rfl, rfl⟩
    · have HD := rdec_nat n.toNat (by omega) w
      have e : Lib.itoa n = Lib.decDigits n.toNat := by unfold Lib.itoa; rw [if_neg hn]
      rw [show ((n.toNat : Nat) : Int) = n by omega] at HD
      rw [e]
      exact HD
end
section
open Go.RowKit
set_option linter.unusedVariables false
set_option maxRecDepth 20000
set_option linter.unusedSimpArgs false
set_option linter.unusedSectionVars false
set_option maxRecDepth 100000
attribute [local go_sem] Oper.semAt_some

def csU (c : UInt8) : List Value := [.int .u8 (c.toNat : Int)]
theorem elemU : ElemG csU 103 5 1 1 where
  ht := Tryd.underlying103
  info := by
    obtain ⟨i, h1, h2, h3, h4⟩ := u8_info
    exact ⟨i, _, h1, h2, h3, h4, rfl⟩
  k0 := by omega
  hk := fun _ => rfl
  one := fun x u hu => by
    simp [csU] at hu
    subst hu
    rfl
abbrev OwnU := @OwnG UInt8 csU 5 1
/-- a literal, read -/
theorem SlG.lit {α : Type} {cs : α → List Value} {k : Nat} (hk : ∀ x, (cs x).length = k) {w : World} {t0 : TypeId} {C : Array Value} {b n : Nat} (m : List α) (hC : C = (m.flatMap cs).toArray) (hb : b = w.heap.size) (hn : m.length = n) (hlim : n ≤ 9223372036854775807) : SlG cs (w.alloc (.cells C t0)) (some ⟨b, 0, none⟩) n m := by
  subst hC hb hn
  refine ⟨fun i x hi => ⟨w.heap.size, 0, rfl, fun j u hj => ?_⟩, Nat.le_refl _, hlim⟩
  have h1 := flat_at hk m i j x u hi hj
  rw [hk]
  rw [show (0 : Nat) + i * k + j = i * k + j from by omega]
  exact (World.cell?_alloc_mark _ _ _ _ (i * k + j)).trans (by simpa using h1)
/-- string(b) of a list of bytes of the call's own -/
theorem run_text_own {w W : World} {base : Nat} {v : Value} {l : List UInt8} (h : OwnU w base v l) (hx : Ext w W) : (convert 103 9 v).run Tryd.prog W = .ok (.string ⟨l.toArray⟩) W := by
  have h := h.ext hx
  rcases h.2 with ⟨rfl, h0⟩ | ⟨g, cap, cur, rfl, hb, hg, rest⟩
  · obtain rfl : l = [] := List.length_eq_zero_iff.1 h0
    exact run_convert_bytes_nil W 103 5 Tryd.underlying103 Tryd.underlying5 _ _ _ Tryd.underlying9
  · refine run_convert_bytes_back W 103 9 5 ⟨g, 0, none⟩ cap l Tryd.underlying103 Tryd.underlying5 Tryd.underlying9 (fun j hj => ?_)
    have := OwnG.cell (cs := csU) (n := l.length) (fun _ => rfl) h rfl j l[j] (List.getElem?_eq_getElem hj) 0 (.int .u8 (l[j].toNat : Int)) rfl
    rw [add_flat]
    simpa using this
def quoL (s : ByteArray) : List UInt8 := [34] ++ escA s s.size ++ [34]
set_option maxHeartbeats 4000000 in
theorem quoted_any (s : ByteArray) (w : World) (hs : s.size ≤ 1000) :
    Calls Tryd.prog 66 #[.string s] w fun e w' => e = .returned (.string ⟨(quoL s).toArray⟩) ∧ Ext w w' := by
  go_enter Tryd.func66, Tryd.ntmps66
  go_wp2
  go_loopw [5, 3] (fun i v wr => ∃ k : Nat, k ≤ s.size ∧ i = .int .i64 k ∧ OwnU wr w.heap.size v (escA s k) ∧ Ext w wr) (fun i _ _ => s.size - (intOf i).toNat)
  case atStart => exact ⟨0, by omega, rfl, OwnG.nil _ _ _ _ _, Ext.refl w⟩
  case round =>
    obtain ⟨k, hk, rfl, hown, hx⟩ := hrel
    have hle := escA_le s k
    by_cases hlt : k < s.size
    · have c1 : (k : Int) < s.size := by omega
      have hi := fun W => str_index s k hlt W
      rw [byteU_Nall] at hi
      have d1 : IntKind.i64.wrap ((k : Int) + 1) = (k : Int) + 1 := IntWalk.i64_in _ ⟨by omega, by omega⟩
      have HS := Lib.hid (escA_succ s k)
      obtain ⟨u, hu⟩ : ∃ u, byteU s k = u := ⟨_, rfl⟩
      rw [hu] at hi HS
      obtain ⟨acc, hacc⟩ : ∃ acc, escA s k = acc := ⟨_, rfl⟩
      rw [hacc] at hown hle HS
      have HL := Lib.hid hle
      clear hu hacc hle
      by_cases q1 : u = 34
      · subst q1
        have HE := Lib.hid (show escL 34 = [92, 34] from by decide)
        rw [show (((34 : UInt8).toNat : Nat) : Int) = 34 from rfl] at hi
        go_wp2_with (at_builtin; refine wpList_app_G _ elemU rfl _ _ rfl (base := w.heap.size) (m := [92, 34]) rfl (hown.ext ((Ext.refl _).alloc _)) rfl (SlG.lit (cs := csU) (k := 1) (fun _ => rfl) [92, 34] rfl rfl rfl (by simp)) (fun h => by cases h) ?a1 ?a2 ?a3 ?_)
        case a1 => have := HL.out; first | omega | (simp only [List.length_cons, List.length_nil]; omega)
        case a2 => have := HL.out; first | omega | (simp only [List.length_cons, List.length_nil]; omega)
        case a3 => have := hx.size; simp; omega
        intro v' w' hown' hb'
        rw [← HE.out, ← HS.out] at hown'
        go_wp2
        go_roundw
        case rel => exact ⟨k + 1, by omega, by go_num, hown', below_ext (hx.alloc _) hb' (Nat.le_refl _)⟩
        case measure => simp [intOf]; omega
      · by_cases q2 : u = 92
        · subst q2
          have HE := Lib.hid (show escL 92 = [92, 92] from by decide)
          rw [show (((92 : UInt8).toNat : Nat) : Int) = 92 from rfl] at hi
          clear q1
          go_wp2_with (at_builtin; refine wpList_app_G _ elemU rfl _ _ rfl (base := w.heap.size) (m := [92, 92]) rfl (hown.ext ((Ext.refl _).alloc _)) rfl (SlG.lit (cs := csU) (k := 1) (fun _ => rfl) [92, 92] rfl rfl rfl (by simp)) (fun h => by cases h) ?a1 ?a2 ?a3 ?_)
          case a1 => have := HL.out; first | omega | (simp only [List.length_cons, List.length_nil]; omega)
          case a2 => have := HL.out; first | omega | (simp only [List.length_cons, List.length_nil]; omega)
          case a3 => have := hx.size; simp; omega
          intro v' w' hown' hb'
          rw [← HE.out, ← HS.out] at hown'
          go_wp2
          go_roundw
          case rel => exact ⟨k + 1, by omega, by go_num, hown', below_ext (hx.alloc _) hb' (Nat.le_refl _)⟩
          case measure => simp [intOf]; omega
        · have n34 : ((u.toNat : Int) == 34) = false := by
            rw [beq_eq_false_iff_ne]
            intro e
            have h34 : (34 : UInt8).toNat = 34 := rfl
            exact q1 (UInt8.toNat_inj.1 (by omega))
          have n92 : ((u.toNat : Int) == 92) = false := by
            rw [beq_eq_false_iff_ne]
            intro e
            have h92 : (92 : UInt8).toNat = 92 := rfl
            exact q2 (UInt8.toNat_inj.1 (by omega))
          by_cases q3 : u.toNat < 32 ∨ 126 < u.toNat
          · have HE := Lib.hid (escL_hex q1 q2 q3)
            have h256 : u.toNat < 256 := u.toNat_lt
            have z3 : ∀ W, (Instr.index 9 (.string ⟨#[48, 49, 50, 51, 52, 53, 54, 55, 56, 57, 97, 98, 99, 100, 101, 102]⟩) (.int .u8 ((u.toNat : Int) / 16))).run Tryd.prog W = .ok (.int .u8 ((hexd (u.toNat / 16)).toNat : Int)) W := fun W => by
              have := run_hex (u.toNat / 16) (by omega) W
              rwa [Int.natCast_ediv] at this
            have z4 : ∀ W, (Instr.index 9 (.string ⟨#[48, 49, 50, 51, 52, 53, 54, 55, 56, 57, 97, 98, 99, 100, 101, 102]⟩) (.int .u8 ((u.toNat : Int) % 16))).run Tryd.prog W = .ok (.int .u8 ((hexd (u.toNat % 16)).toNat : Int)) W := fun W => by
              have := run_hex (u.toNat % 16) (by omega) W
              rwa [Int.natCast_emod] at this
            have hc : (u.toNat : Int) < 32 ∨ (¬ (u.toNat : Int) < 32 ∧ (126 : Int) < (u.toNat : Int)) := by omega
            have hw1 : IntKind.u8.wrap ((u.toNat : Int) / 16) = (u.toNat : Int) / 16 := by simp [IntKind.wrap, IntKind.bits, IntKind.signed]; omega
            have hw2 : (u.toNat : Int).tmod 16 = (u.toNat : Int) % 16 := Int.tmod_eq_emod_of_nonneg (by omega)
            generalize hexd (u.toNat / 16) = x1 at *
            generalize hexd (u.toNat % 16) = x2 at *
            clear q1 q2 q3
            rcases hc with hc | ⟨hc0, hc⟩
            · go_wp2
              go_region_law
                (first
                  | (refine step_app_G w elemU ?_ (.tmp 38) (.tmp 47) ?_ u3 acc [92, 120, x1, x2] 4 (some ⟨?_, 0, none⟩) 4 ?_ ?_ rfl ?_ ?_ (fun e => by cases e) ?_ ?_ ?_ ?_
                     · rfl
                     · rfl
                     rotate_left 1
                     · rfl
                     · rfl
                     · exact hown.ext ((Ext.refl _).alloc _).drew
                     · exact (SlG.lit (w := wr) (cs := csU) (k := 1) (fun _ => rfl) [92, 120, x1, x2] rfl rfl rfl (by simp)).ext (Ext.refl _).drew
                     · have := HL.out; omega
                     · have := HL.out; omega
                     · exact (hx.alloc _).drew
                     intro v' w' hown' hx' _; rw [← HE.out, ← HS.out] at hown')
                  | fail)
              all_goals (
                go_wp2
                go_roundw
                case rel => exact ⟨k + 1, by omega, by go_num, hown', hx'⟩
                case measure => simp [intOf]; omega)
            · go_wp2
              go_region_law
                (first
                  | (refine step_app_G w elemU ?_ (.tmp 38) (.tmp 47) ?_ u3 acc [92, 120, x1, x2] 4 (some ⟨?_, 0, none⟩) 4 ?_ ?_ rfl ?_ ?_ (fun e => by cases e) ?_ ?_ ?_ ?_
                     · rfl
                     · rfl
                     rotate_left 1
                     · rfl
                     · rfl
                     · exact hown.ext ((Ext.refl _).alloc _).drew
                     · exact (SlG.lit (w := wr) (cs := csU) (k := 1) (fun _ => rfl) [92, 120, x1, x2] rfl rfl rfl (by simp)).ext (Ext.refl _).drew
                     · have := HL.out; omega
                     · have := HL.out; omega
                     · exact (hx.alloc _).drew
                     intro v' w' hown' hx' _; rw [← HE.out, ← HS.out] at hown')
                  | fail)
              all_goals (
                go_wp2
                go_roundw
                case rel => exact ⟨k + 1, by omega, by go_num, hown', hx'⟩
                case measure => simp [intOf]; omega)
          · have HE := Lib.hid (show escL u = [u] from escL_plain q1 q2 (fun h => q3 (.inl h)) (fun h => q3 (.inr h)))
            have c3 : ¬ (u.toNat : Int) < 32 := by omega
            have c4 : ¬ (126 : Int) < (u.toNat : Int) := by omega
            clear q1 q2 q3
            go_wp2_with (at_builtin; refine wpList_app_G _ elemU rfl _ _ rfl (base := w.heap.size) (m := [u]) rfl (hown.ext ((Ext.refl _).alloc _)) rfl (SlG.lit (cs := csU) (k := 1) (fun _ => rfl) [u] rfl rfl rfl (by simp)) (fun h => by cases h) ?a1 ?a2 ?a3 ?_)
            case a1 => have := HL.out; first | omega | (simp only [List.length_cons, List.length_nil]; omega)
            case a2 => have := HL.out; first | omega | (simp only [List.length_cons, List.length_nil]; omega)
            case a3 => have := hx.size; simp; omega
            intro v' w' hown' hb'
            rw [← HE.out, ← HS.out] at hown'
            go_wp2
            go_roundw
            case rel => exact ⟨k + 1, by omega, by go_num, hown', below_ext (hx.alloc _) hb' (Nat.le_refl _)⟩
            case measure => simp [intOf]; omega
    · obtain rfl : k = s.size := by omega
      have hT := fun W hxx => run_text_own (W := W) hown hxx
      have hT := hT wr (Ext.refl wr)
      obtain ⟨X, hX⟩ : ∃ X : ByteArray, ⟨(escA s s.size).toArray⟩ = X := ⟨_, rfl⟩
      have HR := Lib.hid (show (⟨#[34]⟩ ++ X) ++ ⟨#[34]⟩ = (⟨(quoL s).toArray⟩ : ByteArray) from by
        rw [← hX]
        show (⟨[34].toArray⟩ ++ (⟨(escA s s.size).toArray⟩ : ByteArray)) ++ ⟨[34].toArray⟩ = _
        rw [str_app, str_app]
        rfl)
      have hz : X.size ≤ 4000 := by
        rw [← hX]
        show (escA s s.size).toArray.size ≤ 4000
        simp
        omega
      rw [hX] at hT
      have hl1 : ¬ 9223372036854775807 < 1 + X.size := by omega
      have hl2 : ¬ 9223372036854775807 < 1 + X.size + 1 := by omega
      clear hX hle hown
      go_wp2
      go_ret
      exact ⟨by rw [← HR.out]; rfl, hx⟩
theorem rwritten_any (x : Vl) (w : World) (hx : valB x = true) :
    Calls Tryd.prog 47 #[.agg #[.int .i64 x.1, .int .i64 x.2.1, .string x.2.2]] w fun e w' => e = .returned (.string (wrS x)) ∧ Ext w w' := by
  have hv := valB_in hx
  obtain ⟨k, n, s⟩ := x
  simp only at hv ⊢
  have hx0 := (Ext.refl w).alloc (.cells #[.int .i64 k, .int .i64 n, .string s] 50)
  by_cases hk : k = 1
  · subst hk
    have HW := Lib.hid (show wrS (1, n, s) = ⟨(Lib.itoa n).toArray⟩ from by unfold wrS wrL; rw [if_pos rfl])
    have hD := fun W => rdec_any n hv.1.1 hv.1.2 W
    go_enter Tryd.func47, Tryd.ntmps47
    go_wp2_with (go_at_call 65; refine (hD _).mono ?_; rintro e w1 ⟨rfl, rfl⟩)
    go_ret
    exact ⟨by rw [HW.out]; rfl, hx0⟩
  · have hk1 : (k == 1) = false := by simpa using hk
    have HW := Lib.hid (show wrS (k, n, s) = ⟨(quoL s).toArray⟩ from by unfold wrS wrL; rw [if_neg hk]; rfl)
    have hQ := fun W => quoted_any s W hv.2
    go_enter Tryd.func47, Tryd.ntmps47
    go_wp2_with (go_at_call 66; refine (hQ _).mono ?_; rintro e w1 ⟨rfl, hx1⟩)
    go_ret
    exact ⟨by rw [HW.out]; rfl, hx0.trans hx1⟩
theorem join_snoc (sep x : List UInt8) : ∀ (L : List (List UInt8)), Lib.join (L ++ [x]) sep = if L = [] then x else Lib.join L sep ++ sep ++ x
  | [] => by simp [join1]
  | [a] => by
    show Lib.join [a, x] sep = _
    rw [join2, join1, if_neg (by simp), join1]
  | a :: b :: L => by
    have ih := join_snoc sep x (b :: L)
    rw [if_neg (by simp)] at ih ⊢
    show Lib.join (a :: b :: (L ++ [x])) sep = _
    rw [join2, join2]
    have ih : Lib.join (b :: (L ++ [x])) sep = _ := ih
    rw [ih]
    simp only [List.append_assoc]
/-- a row's first values, written -/
def textK (l : List Vl) (k : Nat) : List UInt8 := Lib.join ((l.take k).map wrL) [44]
theorem textK_succ {l : List Vl} {k : Nat} (hk : k < l.length) : textK l (k + 1) = if k = 0 then wrL (nthV l k) else textK l k ++ [44] ++ wrL (nthV l k) := by
  unfold textK
  rw [List.take_add_one, nthV_some hk, List.map_append]
  simp only [Option.toList_some, List.map_cons, List.map_nil]
  rw [join_snoc]
  by_cases h : k = 0
  · subst h
    simp
  · rw [if_neg h, if_neg]
    intro e
    have := congrArg List.length e
    rw [List.length_map, List.length_take, List.length_nil] at this
    omega
theorem textK_le {l : List Vl} (hall : ∀ x ∈ l, valB x = true) (k : Nat) (hk : k ≤ l.length) : (textK l k).length ≤ k * 201 := by
  have := join_le [44] 200 ((l.take k).map wrL) (by
    intro x hx
    obtain ⟨y, hy, rfl⟩ := List.mem_map.1 hx
    exact wrL_le (hall y (List.mem_of_mem_take hy)))
  rw [List.length_map, List.length_take, Nat.min_eq_left hk] at this
  exact this
set_option maxHeartbeats 4000000 in
theorem rtext_any (P : Option Addr) (cap : Nat) (l : List Vl) (w : World) (h : SlV w P cap l) :
    Calls Tryd.prog 23 #[.slice P l.length cap] w fun e w' => e = .returned (.string ⟨(textL l).toArray⟩) ∧ Ext w w' := by
  have hlen := h.len
  have hR := rrow_any P cap l w h
  cases hr : rowB l with
  | false =>
    have HB := Lib.hid (show textL l = [] from by simp [textL, hr])
    simp only [hr] at hR
    clear hr
    go_enter Tryd.func23, Tryd.ntmps23
    go_wp2_with (go_at_call 22; refine hR.mono ?_; rintro e w1 ⟨rfl, hx1⟩)
    go_ret
    exact ⟨by rw [HB.out]; rfl, hx1⟩
  | true =>
    have HB := Lib.hid (show textL l = textK l l.length from by simp [textL, hr, textK])
    simp only [hr] at hR
    have h8 : l.length ≤ 8 := by unfold rowB at hr; simp at hr; exact hr.2
    have hall : ∀ x ∈ l, valB x = true := by unfold rowB at hr; simp at hr; intro x hx; exact hr.1 _ _ _ hx
    clear hr
    go_enter Tryd.func23, Tryd.ntmps23
    go_wp2_with (go_at_call 22; refine hR.mono ?_; rintro e w1 ⟨rfl, hx1⟩)
    go_loopw [4, 3] (fun i v wr => ∃ k : Nat, k ≤ l.length ∧ i = .int .i64 k ∧ v = .string ⟨(textK l k).toArray⟩ ∧ Ext w wr) (fun i _ _ => l.length - (intOf i).toNat)
    case atStart => exact ⟨0, by omega, rfl, rfl, hx1⟩
    case round =>
      obtain ⟨k, hk, rfl, rfl, hx⟩ := hrel
      by_cases hlt : k < l.length
      · obtain ⟨b, off, hP, g0, g1, g2⟩ := h.valAt k hlt
        subst hP
        have g0 := hx.cell g0
        have g1 := hx.cell g1
        have g2 := hx.cell g2
        have c1 : (k : Int) < l.length := by omega
        have d1 : IntKind.i64.wrap ((k : Int) + 1) = (k : Int) + 1 := IntWalk.i64_in _ ⟨by omega, by omega⟩
        have hv := hall _ (nthV_mem hlt)
        have hW := fun W => rwritten_any (nthV l k) W hv
        have hwl := wrL_le hv
        have hkl := textK_le hall k hk
        have HS := Lib.hid (textK_succ hlt)
        obtain ⟨Y, hY⟩ : ∃ Y, wrS (nthV l k) = Y := ⟨_, rfl⟩
        have hYl : Y = ⟨(wrL (nthV l k)).toArray⟩ := hY.symm
        obtain ⟨X, hX⟩ : ∃ X : ByteArray, ⟨(textK l k).toArray⟩ = X := ⟨_, rfl⟩
        have hXs : X.size ≤ 2000 := by
          rw [← hX]
          show (textK l k).toArray.size ≤ 2000
          simp
          omega
        have hYs : Y.size ≤ 200 := by
          rw [hYl]
          show (wrL (nthV l k)).toArray.size ≤ 200
          simpa using hwl
        rw [hY] at hW
        have HYX := Lib.hid (And.intro hYl hX)
        by_cases hk0 : k = 0
        · have c2 : ¬ (0 : Int) < k := by omega
          have HX0 := Lib.hid (show X = ⟨#[]⟩ from by rw [← hX, hk0]; rfl)
          have hl1 : ¬ 9223372036854775807 < X.size + Y.size := by omega
          have HN := Lib.hid (show (X ++ Y : ByteArray) = ⟨(textK l (k + 1)).toArray⟩ from by
            rw [HS.out, if_pos hk0, HX0.out, hYl]
            show (⟨[].toArray⟩ ++ (⟨(wrL (nthV l k)).toArray⟩ : ByteArray)) = _
            rw [str_app, List.nil_append])
          rw [hX]
          generalize nthV l k = x at *
          clear hX hY hYl hwl hkl hv hall HYX hk0
          go_wp2_with (go_at_call 47; refine (hW _).mono ?_; rintro e w2 ⟨rfl, hx2⟩)
          go_roundw
          case rel => exact ⟨k + 1, by omega, by go_num, by rw [← HN.out], hx.trans hx2⟩
          case measure => simp [intOf]; omega
        · have c2 : (0 : Int) < k := by omega
          have hl1 : ¬ 9223372036854775807 < X.size + 1 := by omega
          have hl2 : ¬ 9223372036854775807 < X.size + 1 + Y.size := by omega
          have HN := Lib.hid (show ((X ++ ⟨#[44]⟩) ++ Y : ByteArray) = ⟨(textK l (k + 1)).toArray⟩ from by
            rw [HS.out, if_neg hk0, ← hX, hYl]
            show (⟨(textK l k).toArray⟩ ++ (⟨[44].toArray⟩ : ByteArray)) ++ _ = _
            rw [str_app, str_app])
          rw [hX]
          generalize nthV l k = x at *
          clear hX hY hYl hwl hkl hv hall HYX
          go_wp2_with (go_at_call 47; refine (hW _).mono ?_; rintro e w2 ⟨rfl, hx2⟩)
          go_roundw
          case rel => exact ⟨k + 1, by omega, by go_num, by rw [← HN.out], hx.trans hx2⟩
          case measure => simp [intOf]; omega
      · obtain rfl : k = l.length := by omega
        go_wp2
        go_ret
        exact ⟨by rw [HB.out]; rfl, hx⟩
end
end Go.Proofs.YtcbinafokhekmaaDoor
