/- Decimal of the reference. -/
import Derived.Test.YtpobjheodlkkiaaGreatDoorBase
import Derived.Test.YtpobjheodlkkiaaGreatDoorTxB
import Derived.Laws.Runes
namespace Go.Proofs.YtpobjheodlkkiaaGreatDoor
open Go.RowKit
set_option linter.unusedVariables false
set_option linter.unusedSimpArgs false
set_option linter.unusedSectionVars false
set_option maxRecDepth 100000
attribute [local go_sem] Oper.semAt_some

theorem enc_dig : ∀ d : Fin 10, (Utf8.encode (48 + (d.val : Int))).data = #[UInt8.ofNat (48 + d.val)] := by decide +kernel
theorem enc_digit (d : Nat) (h : d < 10) : Utf8.encode (48 + (d : Int)) = ⟨#[UInt8.ofNat (48 + d)]⟩ := ByteArray.ext (enc_dig ⟨d, h⟩)
theorem str_app (a b : List UInt8) : ((⟨a.toArray⟩ : ByteArray) ++ ⟨b.toArray⟩) = ⟨(a ++ b).toArray⟩ := by
  apply ByteArray.ext
  simp
theorem dec_step (u : Nat) (h : ¬ u < 10) (r : List UInt8) : Lib.decDigits (u / 10) ++ UInt8.ofNat (48 + u % 10) :: r = Lib.decDigits u ++ r := by
  rw [Lib.decDigits.eq_def u, dif_neg h]; simp
/-- what is left of a number's digits -/
def DecRel (n k : Nat) (S : ByteArray) : Prop := Lib.decDigits k ++ S.data.toList = Lib.decDigits n
theorem DecRel.size {n k : Nat} {S : ByteArray} (h : DecRel n k S) (hn : n ≤ 9223372036854775807) : S.size ≤ 20 := by
  have := congrArg List.length h
  rw [List.length_append] at this
  have h2 := dec_len n 18 (by omega)
  have h3 : S.data.toList.length = S.size := by simp
  omega
theorem app_toList (a b : ByteArray) : (a ++ b).data.toList = a.data.toList ++ b.data.toList := by simp
/-- a number that is not negative -/
theorem rdec_nat (n : Nat) (hn : n ≤ 9223372036854775807) (w : World) :
    Calls Tryz.prog 17 #[.int .i64 n] w fun e w' => e = .returned (.string ⟨(Lib.decDigits n).toArray⟩) ∧ w = w' := by
  have c0 : ((n : Int) == -9223372036854775808) = false := by rw [beq_eq_false_iff_ne]; omega
  have c1 : ¬ (n : Int) < 0 := by omega
  go_enter Tryz.func17, Tryz.ntmps17
  go_wp2
  clear c0 c1
  go_loop [0, 3] (fun i v => ∃ (k : Nat) (S : ByteArray), k ≤ n ∧ i = .int .i64 k ∧ v = .string S ∧ DecRel n k S) (fun i _ => (intOf i).toNat)
  case atStart => exact ⟨n, ⟨#[]⟩, Nat.le_refl _, rfl, rfl, by simp [DecRel]⟩
  case round =>
    obtain ⟨k, S, hk, rfl, rfl, hr⟩ := hrel
    by_cases h : k < 10
    · have c2 : ¬ (10 : Int) ≤ k := by omega
      have d1 : IntKind.i64.wrap (48 + (k : Int)) = 48 + (k : Int) := IntWalk.i64_in _ ⟨by omega, by omega⟩
      have d2 : IntKind.i32.wrap (48 + (k : Int)) = 48 + (k : Int) := by simp [IntKind.wrap, IntKind.bits, IntKind.signed]; omega
      have HE := enc_digit k h
      obtain ⟨D, hD⟩ : ∃ D, (⟨#[UInt8.ofNat (48 + k)]⟩ : ByteArray) = D := ⟨_, rfl⟩
      rw [hD] at HE
      have HR : Hid (D ++ S = ⟨(Lib.decDigits n).toArray⟩) := Lib.hid (by
        apply ByteArray.ext
        apply Array.ext'
        rw [app_toList, ← hD, ← hr, Lib.decDigits, dif_pos h])
      have hz := hr.size hn
      have hd1 : D.size = 1 := by rw [← hD]; rfl
      have hlim : ¬ 9223372036854775807 < D.size + S.size := by omega
      clear hd1
      clear hr hD
      go_wp2
      go_ret
      exact ⟨by rw [HR.out]; rfl, rfl⟩
    · have c2 : (10 : Int) ≤ k := by omega
      obtain ⟨m, hm⟩ : ∃ m : Nat, k % 10 = m := ⟨_, rfl⟩
      obtain ⟨q, hq⟩ : ∃ q : Nat, k / 10 = q := ⟨_, rfl⟩
      have e1 : (k : Int) % 10 = m := by omega
      have e2 : (k : Int) / 10 = q := by omega
      have HE := enc_digit m (by omega)
      obtain ⟨D, hD⟩ : ∃ D, (⟨#[UInt8.ofNat (48 + m)]⟩ : ByteArray) = D := ⟨_, rfl⟩
      rw [hD] at HE
      have HR : Hid (DecRel n q (D ++ S)) := Lib.hid (by
        unfold DecRel at hr ⊢
        rw [app_toList, ← hD, ← hq, ← hr]
        have := dec_step k h S.data.toList
        rw [hm] at this
        exact this)
      have hz := hr.size hn
      have hd1 : D.size = 1 := by rw [← hD]; rfl
      have hlim : ¬ 9223372036854775807 < D.size + S.size := by omega
      clear hd1
      clear hr hD
      go_wp2
      go_round
      case rel => exact ⟨q, D ++ S, by omega, rfl, rfl, HR.out⟩
      case measure => simp [intOf]; omega
/-- Decimal of the reference -/
theorem rdec_any (n : Int) (h0 : -9223372036854775808 ≤ n) (h1 : n ≤ 9223372036854775807) (w : World) :
    Calls Tryz.prog 17 #[.int .i64 n] w fun e w' => e = .returned (.string ⟨(Lib.itoa n).toArray⟩) ∧ w = w' := by
  by_cases hm : n = -9223372036854775808
  · subst hm
    have HR : Hid ((⟨(Lib.itoa (-9223372036854775808)).toArray⟩ : ByteArray) = ⟨#[45,57,50,50,51,51,55,50,48,51,54,56,53,52,55,55,53,56,48,56]⟩) := Lib.hid (by
      have : Lib.itoa (-9223372036854775808) = [45,57,50,50,51,51,55,50,48,51,54,56,53,52,55,55,53,56,48,56] := by
        unfold Lib.itoa
        rw [if_pos (by decide), show (-9223372036854775808 : Int).natAbs = 9223372036854775808 by decide]
        rw [Lib.decDigits_eq, Lib.nDigits_unique 18 _ (by decide) (by decide)]
        decide +kernel
      rw [this])
    go_enter Tryz.func17, Tryz.ntmps17
    go_wp2
    go_ret
    exact ⟨by rw [HR.out]; rfl, rfl⟩
  · by_cases hn : n < 0
    · have c0 : (n == -9223372036854775808) = false := by rw [beq_eq_false_iff_ne]; exact hm
      have e1 : IntKind.i64.wrap (-n) = ((n.natAbs : Nat) : Int) := (IntWalk.i64_in _ ⟨by omega, by omega⟩).trans (by omega)
      have HD := rdec_nat n.natAbs (by omega) w
      obtain ⟨D, hD⟩ : ∃ D, (⟨(Lib.decDigits n.natAbs).toArray⟩ : ByteArray) = D := ⟨_, rfl⟩
      have HR : Hid ((⟨#[45]⟩ : ByteArray) ++ D = ⟨(Lib.itoa n).toArray⟩) := Lib.hid (by
        rw [← hD]
        have : Lib.itoa n = 45 :: Lib.decDigits n.natAbs := by unfold Lib.itoa; rw [if_pos hn]
        rw [this]
        apply ByteArray.ext
        simp)
      have hz : D.size ≤ 20 := by
        rw [← hD]
        have := dec_len n.natAbs 18 (by omega)
        show (Lib.decDigits n.natAbs).toArray.size ≤ 20
        simp; omega
      have hlim : ¬ 9223372036854775807 < 1 + D.size := by omega
      rw [hD] at HD
      clear hD
      obtain ⟨m, hm2⟩ : ∃ m : Nat, n.natAbs = m := ⟨_, rfl⟩
      rw [hm2] at e1 HD
      clear hm2
      go_enter Tryz.func17, Tryz.ntmps17
      go_wp2_with (go_at_call 17; refine HD.mono ?_; rintro e w1 ⟨rfl, rfl⟩)
      go_ret
      exact ⟨by rw [HR.out]; rfl, rfl⟩
    · have HD := rdec_nat n.toNat (by omega) w
      have e : Lib.itoa n = Lib.decDigits n.toNat := by unfold Lib.itoa; rw [if_neg hn]
      rw [show ((n.toNat : Nat) : Int) = n by omega] at HD
      rw [e]
      exact HD
end Go.Proofs.YtpobjheodlkkiaaGreatDoor
