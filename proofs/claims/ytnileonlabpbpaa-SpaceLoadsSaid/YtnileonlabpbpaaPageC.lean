/- Contracts of package page's Fill and New. -/
import Derived.Test.YtnileonlabpbpaaPageB
namespace Go.Proofs.Ytnileonlabpbpaa
open Go.RowKit
set_option linter.unusedVariables false
set_option maxRecDepth 20000

theorem good_of {f : Nat → Cel} {n : Nat} (h : ¬ AnyBad f n) (hsz : ∀ i, i < n → (f i).2.size ≤ 140737488355328) : Good n f :=
  ⟨fun i hi => (good_at h i hi).1, fun i hi => by unfold lastF; rw [if_neg (by omega)]; exact lines_up h i (n - 1) (by omega) (by omega), (last_of_good h).2, fun i hi => ⟨(good_at h i hi).2.2, hsz i hi⟩⟩

set_option maxHeartbeats 2000000 in
theorem fill_any (size : Int) (A : Option Addr) (cap n : Nat) (f : Nat → Cel) (w : World) (hz0 : -9223372036854775808 ≤ size) (hz1 : size ≤ 9223372036854775807) (hn : n ≤ 200) (hs : SlC w A n f) (hsz : ∀ i, i < n → (f i).2.size ≤ 140737488355328) (hli : ∀ i, i < n → -9223372036854775808 ≤ (f i).1 ∧ (f i).1 ≤ 9223372036854775807) :
    Calls Try.prog 32 #[.int .i64 size, .slice A n cap] w fun e w' => e = .returned (.tuple #[.string (fillRes size n f).1, .int .i64 (fillRes size n f).2]) ∧ Ext w w' := by
  go_enter Try.func32, Try.ntmps32
  go_wp2
  go_loopw [10] (fun i wr => ∃ k : Nat, k ≤ n ∧ i = .int .i64 k ∧ ¬ AnyBad f k ∧ Ext w wr) (fun i _ => n - (intOf i).toNat)
  case atStart => exact ⟨0, by omega, rfl, fun ⟨i, hi, _⟩ => by omega, Ext.refl w⟩
  case round =>
    obtain ⟨k, hk, rfl, hgood, her⟩ := hrel
    have HG := Lib.hid hgood
    clear hgood
    by_cases hlt : k < n
    · obtain ⟨b, off, rfl, h1w, h2w⟩ := hs.at_ k hlt
      have h1 := her.cell h1w
      have h2 := her.cell h2w
      have hl := hli k hlt
      have t5 : (f k).2.toList = [] ↔ (f k).2.size = 0 := toList_nil _
      replace her := her.alloc (.cells #[.int .i64 (f k).1, .string (f k).2] 85)
      cases c1 : lineB (f k).1
      · have e1 : (f k).1 < 1 ∨ 200 < (f k).1 := by simp [lineB] at c1; omega
        clear t5
        go_wp2_with fail
        go_quiet ((go_at_call 50; first | exact quiet_left (line_any _ _ hl.1 hl.2) | exact quiet_add_left (line_any _ _ hl.1 hl.2)))
        go_wp2
        go_ret2
        have hb : AnyBad f n := ⟨k, hlt, by unfold BadF; omega⟩
        exact ⟨ret_pair (by simp [fillRes, hb]) (by simp [fillRes, hb]), her.drewN _⟩
      have e1 : 1 ≤ (f k).1 ∧ (f k).1 ≤ 200 := by simpa [lineB] using c1
      have e5 : (f k).2.size = 0 ∨ 0 < (f k).2.size := by omega
      rcases e5 with c5 | c5
      · have d5 : (f k).2.toList = [] := t5.2 c5
        have d6 : (f k).2.toList.isEmpty = true := by rw [d5]; rfl
        clear t5
        go_wp2_with fail
        go_quiet ((go_at_call 50; first | exact quiet_left (line_any _ _ hl.1 hl.2) | exact quiet_add_left (line_any _ _ hl.1 hl.2)))
        go_wp2
        go_ret2
        have hb : AnyBad f n := ⟨k, hlt, .inr (.inr (.inr c5))⟩
        exact ⟨ret_pair (by simp [fillRes, hb]) (by simp [fillRes, hb]), her.drewN _⟩
      have d5 : (f k).2.toList.isEmpty = false := by
        cases hq : (f k).2.toList with
        | nil => have := t5.1 hq; omega
        | cons x l => rfl
      clear t5
      by_cases c3 : k = 0
      · have d3 : decide (0 < k) = false := by simp [c3]
        have d3' : decide ((0 : Int) < (k : Int)) = false := by simp [c3]
        have c3' : ¬ 0 < k := by omega
        have HN := Lib.hid (show ¬ BadF f k by unfold BadF; omega)
        clear c3
        go_wp2_with fail
        go_quiet ((go_at_call 50; first | exact quiet_left (line_any _ _ hl.1 hl.2) | exact quiet_add_left (line_any _ _ hl.1 hl.2)))
        go_wp2
        go_roundw
        case rel =>
          refine ⟨k + 1, by omega, by go_num, ?_, her.drewN _⟩
          rintro ⟨i, hi, hb⟩
          rcases Nat.lt_or_ge i k with h | h
          · exact HG.out ⟨i, h, hb⟩
          · obtain rfl : i = k := by omega
            exact HN.out hb
        case measure => simp [intOf]; omega
      have c3' : 0 < k := by omega
      have d3 : decide (0 < k) = true := by simp [c3']
      have d3' : decide ((0 : Int) < (k : Int)) = true := by simp [c3']
      obtain ⟨b', off', e', g1w, g2w⟩ := hs.at_ (k - 1) (by omega)
      obtain ⟨rfl, rfl⟩ : b = b' ∧ off = off' := by simpa using e'
      clear e' g2w
      have g1 := her.cell g1w
      by_cases c4 : (f k).1 ≤ (f (k - 1)).1
      · have d4 : decide ((f k).1 ≤ (f (k - 1)).1) = true := by simp [c4]
        go_wp2_with fail
        go_quiet ((go_at_call 50; first | exact quiet_left (line_any _ _ hl.1 hl.2) | exact quiet_add_left (line_any _ _ hl.1 hl.2)))
        go_wp2
        go_ret2
        have hb : AnyBad f n := ⟨k, hlt, .inr (.inr (.inl ⟨c3', c4⟩))⟩
        exact ⟨ret_pair (by simp [fillRes, hb]) (by simp [fillRes, hb]), her.drewN _⟩
      · have d4 : decide ((f k).1 ≤ (f (k - 1)).1) = false := by simp; omega
        have HN := Lib.hid (show ¬ BadF f k by unfold BadF; omega)
        go_wp2_with fail
        go_quiet ((go_at_call 50; first | exact quiet_left (line_any _ _ hl.1 hl.2) | exact quiet_add_left (line_any _ _ hl.1 hl.2)))
        go_wp2
        go_roundw
        case rel =>
          refine ⟨k + 1, by omega, by go_num, ?_, her.drewN _⟩
          rintro ⟨i, hi, hb⟩
          rcases Nat.lt_or_ge i k with h | h
          · exact HG.out ⟨i, h, hb⟩
          · obtain rfl : i = k := by omega
            exact HN.out hb
        case measure => simp [intOf]; omega
    · obtain rfl : k = n := by omega
      have hA : ¬ AnyBad f k := HG.out
      have hL := last_of_good hA
      have hgd := good_of hA hsz
      have hsr := hs.ext her
      cases hz : sizeB size
      · have hr : fillRes size k f = (⟨#[]⟩, 7) := by simp [fillRes, hA, hz]
        have HR := Lib.hid hr
        clear hr hA
        go_wp2_with (go_at_call 34; refine (size_any _ _ hz0 hz1).mono ?_; rintro e w' ⟨rfl, rfl⟩)
        go_ret2
        exact ⟨by rw [HR.out]; rfl, her⟩
      · have hz' := hz
        simp only [sizeB, Bool.and_eq_true, decide_eq_true_eq] at hz'
        have z1 : 32 ≤ size := hz'.1.1
        have z2 : size ≤ 4096 := hz'.1.2
        clear hz'
        obtain ⟨sz, hsz'⟩ := Int.eq_ofNat_of_zero_le (show 0 ≤ size by omega)
        subst hsz'
        by_cases hm : roomF sz f k < 0
        · have hr : fillRes sz k f = (⟨#[]⟩, 13) := by simp [fillRes, hA, hz, hm]
          have HR := Lib.hid hr
          clear hr hA
          go_wp2_with (first
            | (go_at_call 34; refine (size_any _ _ hz0 hz1).mono ?_; rintro e w' ⟨rfl, rfl⟩)
            | (go_at_call 51; refine (filled_full _ _ _ _ f _ (by omega) hsr hgd (by omega) hm).mono ?_; rintro e w' ⟨rfl, hb⟩))
          go_ret2
          exact ⟨by rw [HR.out]; rfl, her.trans hb⟩
        · have hF : Fit sz k f := fit_of_good hA (by omega) hz hm
          have hr : fillRes sz k f = (⟨(bufF sz k f k).toArray⟩, 0) := by simp [fillRes, hA, hz, hm]
          have HR := Lib.hid hr
          clear hr hA
          rcases Nat.eq_zero_or_pos k with h0 | h0
          · subst h0
            go_wp2_with (first
              | (go_at_call 34; refine (size_any _ _ hz0 hz1).mono ?_; rintro e w' ⟨rfl, rfl⟩)
              | (go_at_call 51; refine (filled_none _ _ _ f _ hF).mono ?_; rintro e w' ⟨rfl, hb⟩))
            go_ret2
            exact ⟨by rw [HR.out]; rfl, her.trans hb⟩
          · go_wp2_with (first
              | (go_at_call 34; refine (size_any _ _ hz0 hz1).mono ?_; rintro e w' ⟨rfl, rfl⟩)
              | (go_at_call 51; refine (filled_fits _ _ _ _ f _ h0 (by omega) hsr hgd hF).mono ?_; rintro e w' ⟨rfl, hb⟩))
            go_ret2
            exact ⟨by rw [HR.out]; rfl, her.trans hb⟩

theorem new_any (size : Int) (w : World) (hz0 : -9223372036854775808 ≤ size) (hz1 : size ≤ 9223372036854775807) :
    Calls Try.prog 14 #[.int .i64 size] w fun e w' => e = .returned (.tuple #[.string (fillRes size 0 fun _ => (0, ⟨#[]⟩)).1, .int .i64 (fillRes size 0 fun _ => (0, ⟨#[]⟩)).2]) ∧ Ext w w' := by
  go_enter Try.func14, Try.ntmps14
  go_wp2_with (go_at_call 32; refine (fill_any _ _ _ 0 (fun _ => (0, ⟨#[]⟩)) _ hz0 hz1 (by omega) ⟨fun i hi => by omega⟩ (fun i hi => by omega) (fun i hi => by omega)).mono ?_; rintro e w' ⟨rfl, hb⟩)
  go_ret2
  exact ⟨rfl, hb⟩
end Go.Proofs.Ytnileonlabpbpaa
