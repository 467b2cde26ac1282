/- ChainTexts: Format of the reference. -/
import Derived.Test.YtpobjheodlkkiaaGreatDoorChTB
import Derived.Test.YtpobjheodlkkiaaGreatDoorTxC
namespace Go.Proofs.YtpobjheodlkkiaaGreatDoor
open Go.RowKit Go.Maps
set_option linter.unusedVariables false
set_option linter.unusedSimpArgs false
set_option linter.unusedSectionVars false
set_option maxRecDepth 20000
attribute [local go_sem] Oper.semAt_some

theorem mk_app (a b : List UInt8) : mkB a ++ mkB b = mkB (a ++ b) := str_app a b
theorem row_bytes (A : List UInt8) (x : Lk) : mkB A ++ mkB (Lib.itoa x.1) ++ ⟨#[32]⟩ ++ mkB (Lib.itoa x.2.1) ++ ⟨#[32]⟩ ++ mkB (Lib.itoa x.2.2.1) ++ ⟨#[32]⟩ ++ mkB (Lib.itoa x.2.2.2) ++ ⟨#[10]⟩ = mkB (A ++ rowCh x ++ [10]) := by
  rw [show (⟨#[32]⟩ : ByteArray) = mkB [32] from rfl, show (⟨#[10]⟩ : ByteArray) = mkB [10] from rfl]
  simp only [mk_app]
  unfold rowCh
  simp
def itB (x : Int) : ByteArray := mkB (Lib.itoa x)
theorem itB_size (x : Int) : (itB x).size = (Lib.itoa x).length := mkB_size _
theorem rdec_key {z : Int} (h : 1 ≤ z ∧ z ≤ 1000000) (W : World) :
    Calls Tryz.prog 17 #[.int .i64 z] W fun e w' => e = .returned (.string (itB z)) ∧ W = w' := rdec_any z (by omega) (by omega) W
def RfR (l : List Lk) (w : World) (v i : Value) (wr : World) : Prop := ∃ k n : Nat, k ≤ l.length ∧ v = .string (mkB (preC l k)) ∧ i = .int .i64 k ∧ wr = w.drewN n
set_option maxHeartbeats 4000000 in
theorem rfmt_yes (P : Option Addr) (cap : Nat) (l : List Lk) (w0 : World) (h : SlL w0 P cap l) (ok : ∀ x ∈ l, OkK x) (hv : validB l = true) :
    Calls Tryz.prog 6 #[.slice P l.length cap] w0 fun e w' => e = .returned (.string (mkB (fmtC l))) ∧ Ext w0 w' := by
  have hV := rvalid_any P cap l w0 h ok
  rw [hv] at hV
  obtain ⟨hk, hne, hl5⟩ := valid_links hv
  have HF := Lib.hid (show fmtC l = preC l l.length from by unfold fmtC preC; rw [if_pos hv, List.take_length])
  have HN := Lib.hid (fun i => preC_len hk hl5 i)
  have HK := Lib.hid (fun i (hi : i < l.length) => hk _ (nthL_mem hi))
  clear hk hv hne ok
  go_enter Tryz.func6, Tryz.ntmps6
  go_wp2_with (go_at_call 16; refine hV.mono ?_; rintro e w ⟨rfl, hx1⟩)
  have HH := Lib.hid (h.ext hx1)
  clear hV h
  go_loopw [3, 4] (fun v i wr => RfR l w v i wr) (fun _ i _ => l.length - (intOf i).toNat)
  case atStart => exact ⟨0, 0, by omega, rfl, rfl, by rw [World.drewN_zero]⟩
  case round =>
    obtain ⟨k, n, hk1, rfl, rfl, rfl⟩ := hrel
    have c1 : IntKind.i64.wrap ((k : Int) + 1) = (k : Int) + 1 := IntWalk.i64_in _ ⟨by omega, by omega⟩
    by_cases hlt : k < l.length
    · obtain ⟨pb, off, hP, g0, g1, g2, g3⟩ := HH.out.lkAt k hlt
      have hkk := HK.out k hlt
      have HS := Lib.hid (preC_succ l k hlt)
      have n1 := HN.out k
      have ka := keyC_t hkk.a
      have kb := keyC_t hkk.b
      have kc := keyC_t hkk.c
      have kd := keyC_t hkk.d
      subst hP
      have c2 : (k : Int) < l.length := by omega
      have l1 := itoa_key_lenC hkk.a
      have l2 := itoa_key_lenC hkk.b
      have l3 := itoa_key_lenC hkk.c
      have l4 := itoa_key_lenC hkk.d
      clear HN HK HH
      generalize nthL l k = x at *
      obtain ⟨a, b, c, d⟩ := x
      simp only at g0 g1 g2 g3 ka kb kc kd l1 l2 l3 l4
      generalize preC l k = A at *
      have HB := Lib.hid (row_bytes A (a, b, c, d))
      simp only at HB
      rw [← itB_size] at l1 l2 l3 l4
      rw [← mkB_size] at n1
      rw [← HS.out] at HB
      rw [show mkB (Lib.itoa a) = itB a from rfl, show mkB (Lib.itoa b) = itB b from rfl, show mkB (Lib.itoa c) = itB c from rfl, show mkB (Lib.itoa d) = itB d from rfl] at HB
      clear HS
      generalize mkB A = A1 at *
      have y1 : ¬ 9223372036854775807 < A1.size + (itB a).size := by omega
      have y2 : ¬ 9223372036854775807 < A1.size + (itB a).size + 1 := by omega
      have y3 : ¬ 9223372036854775807 < A1.size + (itB a).size + 1 + (itB b).size := by omega
      have y4 : ¬ 9223372036854775807 < A1.size + (itB a).size + 1 + (itB b).size + 1 := by omega
      have y5 : ¬ 9223372036854775807 < A1.size + (itB a).size + 1 + (itB b).size + 1 + (itB c).size := by omega
      have y6 : ¬ 9223372036854775807 < A1.size + (itB a).size + 1 + (itB b).size + 1 + (itB c).size + 1 := by omega
      have y7 : ¬ 9223372036854775807 < A1.size + (itB a).size + 1 + (itB b).size + 1 + (itB c).size + 1 + (itB d).size := by omega
      have y8 : ¬ 9223372036854775807 < A1.size + (itB a).size + 1 + (itB b).size + 1 + (itB c).size + 1 + (itB d).size + 1 := by omega
      clear hkk
      go_wp2
      go_quiet ((go_at_call 17; exact quiet_add_left (rdec_key (by assumption) _)))
      go_wp2
      go_roundw
      case rel => exact ⟨k + 1, _, by omega, by first | rw [HB.out] | simp only [HB.out], by go_num, rfl⟩
      case measure => simp [intOf]; omega
    · obtain rfl : k = l.length := by omega
      go_wp2
      go_ret
      exact ⟨by rw [HF.out]; rfl, hx1.drewN _⟩
theorem rfmt_any (P : Option Addr) (cap : Nat) (l : List Lk) (w : World) (h : SlL w P cap l) (ok : ∀ x ∈ l, OkK x) :
    Calls Tryz.prog 6 #[.slice P l.length cap] w fun e w' => e = .returned (.string (mkB (fmtC l))) ∧ Ext w w' := by
  cases hv : validB l with
  | true => exact rfmt_yes P cap l w h ok hv
  | false =>
    have hV := rvalid_any P cap l w h ok
    rw [hv] at hV
    rw [fmtC_no (by rw [hv]; decide)]
    clear hv
    go_enter Tryz.func6, Tryz.ntmps6
    go_wp2_with (go_at_call 16; refine hV.mono ?_; rintro e w1 ⟨rfl, hx1⟩)
    go_ret
    exact ⟨rfl, hx1⟩
end Go.Proofs.YtpobjheodlkkiaaGreatDoor
