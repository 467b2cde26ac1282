/- Plain laws of texts: numbers as the reference reads them. -/
import Derived.Test.YtpobjheodlkkiaaGreatDoorTxA
namespace Go.Proofs.YtpobjheodlkkiaaGreatDoor
open Go
set_option linter.unusedVariables false
set_option linter.unusedSimpArgs false

def isDg (c : UInt8) : Bool := decide (48 ≤ c.toNat) && decide (c.toNat ≤ 57)
/-- the digits at the front, 17 at most -/
def dgs (t : List UInt8) : List UInt8 := (t.take 17).takeWhile isDg
/-- a number at the front: its value, and how many bytes it has -/
def magF (minus : Bool) (t : List UInt8) : Int × Int :=
  if dgs t = [] ∨ 1 < (dgs t).length ∧ t.head? = some 48 ∨ minus = true ∧ spell 0 (dgs t) = 0 ∨ 17 ≤ (dgs t).length then (0, 0)
  else (if minus then -(spell 0 (dgs t) : Int) else spell 0 (dgs t), (dgs t).length + (if minus then 1 else 0))
def numF (t : List UInt8) : Int × Int := if t.head? = some 45 then magF true t.tail else magF false t
def wholeF (t : List UInt8) : Int × Bool := ((numF t).1, decide (0 < (numF t).2) && decide ((numF t).2 = t.length))
theorem takeWhile_all {l : List UInt8} (h : ∀ c ∈ l, isDg c = true) : l.takeWhile isDg = l := by
  induction l with
  | nil => rfl
  | cons c l ih => simp [List.takeWhile, h c (by simp), ih (fun x hx => h x (by simp [hx]))]
theorem dgs_all {l : List UInt8} (h : ∀ c ∈ l, isDg c = true) (hl : l.length ≤ 17) : dgs l = l := by
  unfold dgs
  rw [List.take_of_length_le hl, takeWhile_all h]
theorem dec_isDg (u : Nat) : ∀ c ∈ Lib.decDigits u, isDg c = true := fun c hc => by
  have := dec_digit u c hc
  simp [isDg, this]
theorem dec_head : ∀ (u : Nat), 1 ≤ u → (Lib.decDigits u).head? ≠ some 48 := by
  intro u
  induction u using Nat.strongRecOn with
  | _ u ih =>
    intro h1
    by_cases h : u < 10
    · rw [Lib.decDigits, dif_pos h]
      intro e
      simp only [List.head?_cons, Option.some.injEq] at e
      have := congrArg UInt8.toNat e
      simp at this
      omega
    · rw [Lib.decDigits, dif_neg h]
      have h2 := ih (u / 10) (by omega) (by omega)
      cases hd : Lib.decDigits (u / 10) with
      | nil => exact absurd hd (dec_ne _)
      | cons c r => rw [hd] at h2; simpa using h2
theorem mag_dec (u : Nat) (hu : u < 10000000000000000) (minus : Bool) (hm : minus = true → 1 ≤ u) :
    magF minus (Lib.decDigits u) = (if minus then -(u : Int) else u, ((Lib.decDigits u).length : Int) + (if minus then 1 else 0)) := by
  have hl := dec_len u 15 (by omega)
  have hd := dgs_all (dec_isDg u) (by omega)
  unfold magF
  rw [hd, spell_dec, if_neg]
  rintro (h | ⟨h1, h2⟩ | ⟨h1, h2⟩ | h)
  · exact dec_ne u h
  · by_cases h0 : 1 ≤ u
    · exact dec_head u h0 h2
    · have : u = 0 := by omega
      subst this
      rw [Lib.decDigits, dif_pos (by omega)] at h1
      simp at h1
  · have := hm h1; omega
  · omega
/-- Whole of Decimal -/
theorem whole_itoa (n : Int) (h0 : -10000000000000000 < n) (h1 : n < 10000000000000000) : wholeF (Lib.itoa n) = (n, true) := by
  by_cases hn : n < 0
  · have e : Lib.itoa n = 45 :: Lib.decDigits n.natAbs := by unfold Lib.itoa; rw [if_pos hn]
    have hm := mag_dec n.natAbs (by omega) true (by omega)
    have hp : 1 ≤ (Lib.decDigits n.natAbs).length := by
      cases h : Lib.decDigits n.natAbs with
      | nil => exact absurd h (dec_ne _)
      | cons c r => simp
    unfold wholeF numF
    rw [e, List.head?_cons, if_pos rfl, List.tail_cons, hm, List.length_cons]
    simp only [if_true]
    congr 1
    · omega
    · simp
  · have e : Lib.itoa n = Lib.decDigits n.toNat := by unfold Lib.itoa; rw [if_neg hn]
    have hm := mag_dec n.toNat (by omega) false (by simp)
    have hh : (Lib.decDigits n.toNat).head? ≠ some 45 := by
      cases h : Lib.decDigits n.toNat with
      | nil => simp
      | cons c r =>
        have := dec_digit n.toNat c (by rw [h]; simp)
        intro e; simp at e; subst e; simp at this
    have hp : 1 ≤ (Lib.decDigits n.toNat).length := by
      cases h : Lib.decDigits n.toNat with
      | nil => exact absurd h (dec_ne _)
      | cons c r => simp
    unfold wholeF numF
    rw [e, if_neg hh, hm]
    congr 1
    · simp; omega
    · simp; omega
end Go.Proofs.YtpobjheodlkkiaaGreatDoor
