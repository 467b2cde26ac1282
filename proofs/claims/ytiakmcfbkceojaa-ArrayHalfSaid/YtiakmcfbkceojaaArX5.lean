/- Arrays: how many blocks are others; Put, Take and Shift of both together. -/
import Derived.Test.YtiakmcfbkceojaaArX4
namespace Go.Proofs.Ytiakmcfbkceojaa
open Go.RowKit Go.Maps
set_option linter.unusedVariables false
set_option linter.unusedSimpArgs false
set_option linter.unusedSectionVars false
set_option maxRecDepth 20000
attribute [local go_sem] Oper.semAt_some

theorem apartN_in {X Y : List (List Int)} {i : Nat} (h : i < X.length) (hin : nthA X i ∈ Y) : apartN (X.take (i + 1)) Y = apartN (X.take i) Y := by
  rw [nthA_take h, apartN_append]; simp [apartN, hin]
theorem apartN_out {X Y : List (List Int)} {i : Nat} (h : i < X.length) (hin : nthA X i ∉ Y) : apartN (X.take (i + 1)) Y = apartN (X.take i) Y + 1 := by
  rw [nthA_take h, apartN_append]; simp [apartN, hin]
def ApR (X Y : List (List Int)) (w : World) (i n : Value) (wr : World) : Prop :=
  ∃ k : Nat, k ≤ X.length ∧ i = .int .i64 k ∧ n = .int .i64 (apartN (X.take k) Y) ∧ Ext w wr
set_option maxHeartbeats 4000000 in
theorem apart_any (P : Option Addr) (cap : Nat) (Q : Nat → Option Addr) (C : Nat → Nat) (X : List (List Int)) (P2 : Option Addr) (cap2 : Nat) (Q2 : Nat → Option Addr) (C2 : Nat → Nat) (Y : List (List Int)) (w : World) (h : SlA w P cap Q C X) (h2 : SlA w P2 cap2 Q2 C2 Y) (hX : X.length ≤ 1000) :
    Calls Try.prog 35 #[.slice P X.length cap, .slice P2 Y.length cap2] w fun e w' => e = .returned (.int .i64 (apartN X Y)) ∧ Ext w w' := by
  have hlen := h.len
  have hlenY := h2.len
  go_enter Try.func35, Try.ntmps35
  go_wp2
  go_loopw [6, 5, 7, 8] (fun i n _ _ wr => ApR X Y w i n wr) (fun i _ _ _ _ => X.length - (intOf i).toNat)
  case atStart => exact ⟨0, by omega, rfl, by simp [apartN], Ext.refl w⟩
  case round =>
    obtain ⟨k, hk, rfl, rfl, hxq⟩ := hrel
    by_cases hlt : k < X.length
    · obtain ⟨bb, off, hP, hc⟩ := h.at_ k hlt
      subst hP
      have c1 : (k : Int) < X.length := by omega
      replace hc := hxq.cell hc
      have hal := apartN_le (X.take k) Y
      rw [List.length_take] at hal
      have hin := fun hh : nthA X k ∈ Y => Lib.hid (apartN_in hlt hh)
      have hout := fun hh : nthA X k ∉ Y => Lib.hid (apartN_out hlt hh)
      have hrow := (h.row k hlt).ext hxq
      have hY2 := h2.ext hxq
      have hal2 : apartN (X.take k) Y ≤ 1000 := by omega
      obtain ⟨y, hy⟩ : ∃ y, nthA X k = y := ⟨_, rfl⟩
      rw [hy] at hc hin hout hrow
      clear hy hal
      generalize apartN (X.take k) Y = N at *
      obtain ⟨wo, hwo⟩ : ∃ wo : World, wo = wr := ⟨_, rfl⟩
      subst hwo
      go_wp2
      go_loopw [8, 7] (fun j f wq => FndR Y y wo j f wq) (fun j _ _ => Y.length - (intOf j).toNat)
      case atStart => exact ⟨0, false, 0, by omega, rfl, rfl, Lib.hid (by simp), by rw [World.drewN_zero]⟩
      case round =>
        obtain ⟨j, t, n, hj, rfl, rfl, ht, rfl⟩ := hrel
        by_cases hjl : j < Y.length
        · obtain ⟨b3, o3, hP3, g3⟩ := hY2.at_ j hjl
          subst hP3
          have hr3 := hY2.row j hjl
          have c3 : (j : Int) < Y.length := by omega
          have hS := fun r => sameInts_any _ _ _ _ _ _ (wo.drewN r) (hrow.ext ((Ext.refl wo).drewN r)) (hr3.ext ((Ext.refl wo).drewN r))
          have Hms := Lib.hid (mem_take_succ hjl y)
          cases t with
          | true =>
            have Hn : Hid (true = decide (y ∈ Y.take (j + 1))) := Lib.hid (by
              rw [decide_eq_true]
              exact Hms.out.2 (.inl (by simpa using ht.out.symm)))
            clear hS
            go_wp2
            go_quiet (fail)
            go_wp2
            go_roundw
            case rel => exact ⟨j + 1, true, _, by omega, by go_num, rfl, Hn, rfl⟩
            case measure => simp [intOf]; omega
          | false =>
            have hno : y ∉ Y.take j := by simpa using ht.out.symm
            by_cases he : y = nthA Y j
            · rw [decide_eq_true he] at hS
              have Hn : Hid (true = decide (y ∈ Y.take (j + 1))) := Lib.hid (by
                rw [decide_eq_true]
                exact Hms.out.2 (.inr he))
              clear he hno
              go_wp2
              go_quiet ((go_at_call 14; exact quiet_add_n (hS _)))
              go_wp2
              go_roundw
              case rel => exact ⟨j + 1, true, _, by omega, by go_num, rfl, Hn, rfl⟩
              case measure => simp [intOf]; omega
            · rw [decide_eq_false he] at hS
              have Hn : Hid (false = decide (y ∈ Y.take (j + 1))) := Lib.hid (by
                rw [decide_eq_false]
                intro hm
                rcases Hms.out.1 hm with h | h
                · exact hno h
                · exact he h)
              clear he hno
              go_wp2
              go_quiet ((go_at_call 14; exact quiet_add_n (hS _)))
              go_wp2
              go_roundw
              case rel => exact ⟨j + 1, false, _, by omega, by go_num, rfl, Hn, rfl⟩
              case measure => simp [intOf]; omega
        · obtain rfl : j = Y.length := by omega
          have htt := ht.out
          rw [List.take_length] at htt
          have hx4 : Ext wo (wo.drewN n) := (Ext.refl wo).drewN n
          cases t with
          | true =>
            have Hs := hin (by simpa using htt.symm)
            clear htt ht hin hout
            go_wp2
            go_roundw
            case rel => exact ⟨k + 1, by omega, by go_num, by rw [Hs.out], hxq.trans hx4⟩
            case measure => simp [intOf]; omega
          | false =>
            have Hs := hout (by simpa using htt.symm)
            clear htt ht hin hout
            go_wp2
            go_roundw
            case rel => exact ⟨k + 1, by omega, by go_num, by rw [Hs.out]; go_num, hxq.trans hx4⟩
            case measure => simp [intOf]; omega
    · obtain rfl : k = X.length := by omega
      rw [List.take_length]
      obtain ⟨N, hN⟩ : ∃ N, apartN X Y = N := ⟨_, rfl⟩
      have HN := Lib.hid hN
      rw [hN]
      clear hN
      go_wp2
      go_ret
      exact ⟨by rw [HN.out]; rfl, hxq⟩

section
variable (b : Int) (P : Option Addr) (cap : Nat) (Q : Nat → Option Addr) (C : Nat → Nat) (LL : List (List Int)) (w : World) (h : SlA w P cap Q C LL) (hv : ∀ l ∈ LL, ∀ x ∈ l, In64 x) (index too k : Int)
include h hv
/-- Put of both; what is known where it succeeds -/
theorem put_both : ∃ X e0, (∀ W, SlA W P cap Q C LL → Calls Try.prog 33 #[.int .i64 b, .slice P LL.length cap, .int .i64 index, .int .i64 k] W (PPost X e0 W) ∧ Calls Try.prog 34 #[.int .i64 b, .slice P LL.length cap, .int .i64 index, .int .i64 k] W (PPost X e0 W)) ∧
    (e0 ≠ 0 ∨ e0 = 0 ∧ ∃ i : Nat, index = i ∧ i ≤ LL.flatten.length ∧ X = insF b LL i k ∧ ArOk b LL ∧ ArOk b X) := by
  by_cases h1 : validF b LL = true ∧ keyB k = true
  · have hok := validF_iff.1 h1.1
    by_cases h2 : 0 ≤ index ∧ index ≤ LL.flatten.length
    · obtain ⟨i, rfl⟩ : ∃ i : Nat, index = i := ⟨index.toNat, by omega⟩
      have hi : i ≤ LL.flatten.length := by omega
      by_cases h3 : k ∈ LL.flatten
      · exact ⟨[], 6, fun W hW => ⟨aput_dup b P cap Q C LL W hW hv k i hok h1.2 hi h3, rput_dup b P cap Q C LL W hW hv k i hok h1.2 hi h3⟩, .inl (by decide)⟩
      · by_cases h4 : LL.flatten.length < 500
        · exact ⟨_, 0, fun W hW => ⟨aput_yes b P cap Q C LL W hW hv k i hok h1.2 hi h3 h4, rput_yes b P cap Q C LL W hW hv k i hok h1.2 hi h3 h4⟩, .inr ⟨rfl, i, rfl, hi, rfl, hok, hok.ins h1.2 h3 h4 hi⟩⟩
        · exact ⟨[], 4, fun W hW => ⟨aput_full b P cap Q C LL W hW hv k i hok h1.2 hi h3 h4, rput_full b P cap Q C LL W hW hv k i hok h1.2 hi h3 h4⟩, .inl (by decide)⟩
    · exact ⟨[], 7, fun W hW => ⟨aput_out b P cap Q C LL W hW hv index k hok h1.2 h2, rput_out b P cap Q C LL W hW hv index k hok h1.2 h2⟩, .inl (by decide)⟩
  · exact ⟨[], 1, fun W hW => ⟨aput_no b P cap Q C LL W hW hv index k h1, rput_no b P cap Q C LL W hW hv index k h1⟩, .inl (by decide)⟩
/-- Take of both; what is known where it succeeds -/
theorem take_both : ∃ X key e0, (∀ W, SlA W P cap Q C LL → Calls Try.prog 32 #[.int .i64 b, .slice P LL.length cap, .int .i64 index] W (TPost X key e0 W) ∧ Calls Try.prog 36 #[.int .i64 b, .slice P LL.length cap, .int .i64 index] W (TPost X key e0 W)) ∧
    (e0 ≠ 0 ∨ e0 = 0 ∧ ∃ i : Nat, index = i ∧ i < LL.flatten.length ∧ X = remF b LL i ∧ key = nthI LL.flatten i ∧ ArOk b LL ∧ ArOk b X) := by
  by_cases hok : ArOk b LL
  · by_cases h2 : 0 ≤ index ∧ index < LL.flatten.length
    · obtain ⟨i, rfl⟩ : ∃ i : Nat, index = i := ⟨index.toNat, by omega⟩
      have hi : i < LL.flatten.length := by omega
      exact ⟨_, _, 0, fun W hW => ⟨atake_yes b P cap Q C LL W hW hv i hok hi, rtk_yes b P cap Q C LL W hW hv i hok hi⟩, .inr ⟨rfl, i, rfl, hi, rfl, rfl, hok, hok.rem hi⟩⟩
    · exact ⟨[], 0, 7, fun W hW => ⟨atake_out b P cap Q C LL W hW hv index hok h2, rtk_out b P cap Q C LL W hW hv index hok h2⟩, .inl (by decide)⟩
  · exact ⟨[], 0, 1, fun W hW => ⟨atake_no b P cap Q C LL W hW hv index hok, rtk_no b P cap Q C LL W hW hv index hok⟩, .inl (by decide)⟩
/-- Shift of both -/
theorem shift_both : ∃ X e0, (∀ W, SlA W P cap Q C LL → Calls Try.prog 37 #[.int .i64 b, .slice P LL.length cap, .int .i64 index, .int .i64 too] W (PPost X e0 W) ∧ Calls Try.prog 38 #[.int .i64 b, .slice P LL.length cap, .int .i64 index, .int .i64 too] W (PPost X e0 W)) := by
  by_cases hok : ArOk b LL
  · by_cases h2 : 0 ≤ index ∧ index < LL.flatten.length ∧ 0 ≤ too ∧ too < LL.flatten.length
    · obtain ⟨i, rfl⟩ : ∃ i : Nat, index = i := ⟨index.toNat, by omega⟩
      obtain ⟨j, rfl⟩ : ∃ j : Nat, too = j := ⟨too.toNat, by omega⟩
      exact ⟨_, 0, fun W hW => ⟨ashift_yes b P cap Q C LL W hW hv i j hok (by omega) (by omega), rshift_yes b P cap Q C LL W hW hv i j hok (by omega) (by omega)⟩⟩
    · exact ⟨[], 7, fun W hW => ⟨ashift_out b P cap Q C LL W hW hv index too hok h2, rshift_out b P cap Q C LL W hW hv index too hok h2⟩⟩
  · exact ⟨[], 1, fun W hW => ⟨ashift_no b P cap Q C LL W hW hv index too hok, rshift_no b P cap Q C LL W hW hv index too hok⟩⟩
end
end Go.Proofs.Ytiakmcfbkceojaa
