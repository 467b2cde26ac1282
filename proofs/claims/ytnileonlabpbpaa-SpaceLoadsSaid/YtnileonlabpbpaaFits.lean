/- page.Fits of a valid page. -/
import Derived.Test.YtnileonlabpbpaaPutB
namespace Go.Proofs.Ytnileonlabpbpaa
open Go.RowKit
set_option linter.unusedVariables false
set_option maxRecDepth 20000
set_option maxRecDepth 20000

/-- the greater of the least free line and the last one -/
noncomputable def topLine (p : ByteArray) : Int := if (nextF (cel p) (cnt p) : Int) ≤ lastF (cel p) (cnt p) then lastF (cel p) (cnt p) else nextF (cel p) (cnt p)
/-- whether a page has place for so many bytes -/
noncomputable def holdsB (p : ByteArray) (b : Int) : Bool := decide (nextF (cel p) (cnt p) ≤ 200) && decide (0 ≤ (p.size : Int) - 2 - 4 * topLine p - bytesF (cel p) (cnt p) - b)
theorem ret_fits {a b : Bool} (h : a = b) : Ending.returned (.tuple #[.bool a, .int .i64 0]) = .returned (.tuple #[.bool b, .int .i64 0]) := by rw [h]

set_option maxHeartbeats 1000000 in
theorem fits_any (p : ByteArray) (b : Int) (w : World) (hv : ValidR p) (hb0 : 1 ≤ b) (hb : b ≤ 140737488355328) :
    Calls Try.prog 43 #[.string p, .int .i64 b] w fun e w' => e = .returned (.tuple #[.bool (holdsB p b), .int .i64 0]) ∧ Ext w w' := by
  obtain ⟨z1, z2⟩ := sizes_of hv
  have hN := fun W => next_ok p W hv
  have hC := fun W => cells_of p W hv
  have hG := cel_good hv
  have hn := cnt_le hv
  have hsum := cel_sum hv
  have hI := nextI hG _ (Nat.le_refl _)
  have i1 := hI.ge
  have i2 := hI.le
  have hl := last_of_good hG
  have hmono := fun k (hk : k ≤ cnt p) => bytesF_mono (cel p) hk
  unfold holdsB topLine
  have hbl : bytesF (cel p) (cnt p) ≤ p.size := by omega
  clear hsum hI
  generalize cnt p = n at *
  generalize hf : cel p = f at *
  clear hf
  by_cases h2 : nextF f n ≤ 200
  · simp only [h2, if_true] at hN
    rw [decide_eq_true h2, Bool.true_and]
    have c2 : (nextF f n : Int) ≤ 200 := by omega
    have c3 : ¬ b < 0 := by omega
    have c4 : (b == 0) = false := by simp; omega
    by_cases h3 : (p.size : Int) < b
    · rw [decide_eq_false (by split <;> omega)]
      clear hmono
      generalize nextF f n = m at *
      go_enter Try.func43, Try.ntmps43
      go_wp2_with (go_at_call 45; refine (hN _).mono ?_; rintro e w1 ⟨rfl, hx1⟩)
      go_ret2
      exact ⟨rfl, hx1⟩
    · have hM : ∃ M : Int, (if (nextF f n : Int) ≤ lastF f n then lastF f n else nextF f n) = M ∧ 1 ≤ M ∧ M ≤ 200 := ⟨_, rfl, by split <;> omega, by split <;> omega⟩
      obtain ⟨M, hM, hM1, hM2⟩ := hM
      rw [hM]
      have HM := Lib.hid hM
      clear hM
      rcases Nat.eq_zero_or_pos n with h0 | h0
      · subst h0
        have eM : M = nextF f 0 := by
          rw [← HM.out]
          have : lastF f 0 = 0 := by simp [lastF]
          rw [if_neg (by omega)]
        have HE := Lib.hid eM
        clear eM hmono
        have hb0' : bytesF f 0 = 0 := rfl
        rw [hb0']
        clear hb0'
        generalize nextF f 0 = m at *
        go_enter Try.func43, Try.ntmps43
        go_wp2_with (first
          | (go_at_call 45; refine (hN _).mono ?_; rintro e w1 ⟨rfl, hx1⟩)
          | (go_at_call 48; refine (hC _).mono ?_; rintro e w2 ⟨A, cap, rfl, hs, hx2⟩))
        go_loopw [10, 55] (fun s i wr => i = .int .i64 0 ∧ s = .int .i64 0 ∧ Ext w wr) (fun _ _ _ => 0)
        case atStart => exact ⟨rfl, rfl, hx1.trans hx2⟩
        case round =>
          obtain ⟨rfl, rfl, her⟩ := hrel
          go_wp2
          go_ret2
          refine ⟨ret_fits ?_, her⟩
          rw [decide_eq_decide, HE.out]
          omega
      · have hlast : lastF f n = (f (n - 1)).1 := by simp [lastF]; omega
        have hd : ((n : Int) - 1).toNat = n - 1 := by omega
        have c5 : (0 : Int) < n := by omega
        have HL := Lib.hid hlast
        clear hlast
        have hgd := fun k hk => good_at hG k hk
        generalize nextF f n = m at *
        go_enter Try.func43, Try.ntmps43
        go_wp2_with (first
          | (go_at_call 45; refine (hN _).mono ?_; rintro e w1 ⟨rfl, hx1⟩)
          | (go_at_call 48; refine (hC _).mono ?_; rintro e w2 ⟨A, cap, rfl, hs, hx2⟩; obtain ⟨bb, off, rfl, g1, g2⟩ := hs.at_ (n - 1) (by omega); rw [← HL.out] at g1))
        all_goals (
          go_loopw [10, 55] (fun s i wr => ∃ k : Nat, k ≤ n ∧ i = .int .i64 k ∧ s = .int .i64 (bytesF f k) ∧ Ext w2 wr) (fun _ i _ => n - (intOf i).toNat)
          case atStart => exact ⟨0, by omega, rfl, by simp [bytesF], Ext.refl _⟩
          case round =>
            obtain ⟨k, hk, rfl, rfl, her⟩ := hrel
            by_cases hlt : k < n
            · obtain ⟨b', off', e', q1w, q2w⟩ := hs.at_ k hlt
              obtain ⟨rfl, rfl⟩ : bb = b' ∧ off = off' := by simpa using e'
              clear e'
              have q1 := her.cell q1w
              have q2 := her.cell q2w
              have m1 := hmono (k + 1) (by omega)
              have m2 : bytesF f (k + 1) = bytesF f k + (f k).2.size := rfl
              have m3 : bytesF f k + (f k).2.size ≤ bytesF f n := by omega
              have H2 := Lib.hid m2
              clear m1 m2 hmono
              go_wp2
              go_roundw
              case rel => exact ⟨k + 1, by omega, by go_num, by rw [H2.out]; go_num, her.alloc _⟩
              case measure => simp [intOf]; omega
            · obtain rfl : k = n := by omega
              clear hmono HL
              go_wp2
              go_ret2
              refine ⟨ret_fits ?_, (hx1.trans hx2).trans her⟩
              have hE := HM.out
              rw [decide_eq_decide]
              split at hE <;> omega)
  · simp only [h2, if_false] at hN
    rw [decide_eq_false h2, Bool.false_and]
    have c3 : ¬ b < 0 := by omega
    clear hmono
    generalize nextF f n = m at *
    go_enter Try.func43, Try.ntmps43
    go_wp2_with (go_at_call 45; refine (hN _).mono ?_; rintro e w1 ⟨rfl, hx1⟩)
    go_ret2
    exact ⟨rfl, hx1⟩
end Go.Proofs.Ytnileonlabpbpaa
