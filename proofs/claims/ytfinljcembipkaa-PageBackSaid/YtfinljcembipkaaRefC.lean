/- Contracts of the reference's Fill and New. -/
import Derived.Test.YtfinljcembipkaaRefB
namespace Go.Proofs.Ytfinljcembipkaa
open Go.RowKit
set_option linter.unusedVariables false

def BadF (f : Nat → Cel) (i : Nat) : Prop := (f i).1 < 1 ∨ 200 < (f i).1 ∨ (0 < i ∧ (f i).1 ≤ (f (i - 1)).1) ∨ (f i).2.size = 0
def AnyBad (f : Nat → Cel) (n : Nat) : Prop := ∃ i, i < n ∧ BadF f i
open Classical in
/-- what Fill comes to -/
noncomputable def fillRes (size : Int) (n : Nat) (f : Nat → Cel) : ByteArray × Int :=
  if AnyBad f n then (⟨#[]⟩, 1) else if sizeB size = false then (⟨#[]⟩, 7) else if roomF size f n < 0 then (⟨#[]⟩, 13) else (⟨(bufF size.toNat n f n).toArray⟩, 0)
theorem ret_pair {s t : ByteArray} {a b : Int} (h1 : s = t) (h2 : a = b) : Ending.returned (.tuple #[.string s, .int .i64 a]) = .returned (.tuple #[.string t, .int .i64 b]) := by rw [h1, h2]

theorem lines_up {f : Nat → Cel} {n : Nat} (h : ¬ AnyBad f n) : ∀ i j, i ≤ j → j < n → (f i).1 ≤ (f j).1 := by
  intro i j hij hj
  induction j with
  | zero => have : i = 0 := by omega
            subst this; exact Int.le_refl _
  | succ j ih =>
    rcases Nat.lt_or_ge i (j + 1) with h1 | h1
    · have h2 := ih (by omega) (by omega)
      have h3 : ¬ BadF f (j + 1) := fun hb => h ⟨j + 1, hj, hb⟩
      unfold BadF at h3
      simp only [Nat.add_sub_cancel] at h3
      omega
    · have : i = j + 1 := by omega
      subst this; exact Int.le_refl _
theorem good_at {f : Nat → Cel} {n : Nat} (h : ¬ AnyBad f n) (i : Nat) (hi : i < n) : 1 ≤ (f i).1 ∧ (f i).1 ≤ 200 ∧ 0 < (f i).2.size := by
  have h3 : ¬ BadF f i := fun hb => h ⟨i, hi, hb⟩
  unfold BadF at h3
  omega
theorem last_of_good {f : Nat → Cel} {n : Nat} (h : ¬ AnyBad f n) : 0 ≤ lastF f n ∧ lastF f n ≤ 200 := by
  unfold lastF
  by_cases h0 : n = 0
  · simp [h0]
  · rw [if_neg h0]; have := good_at h (n - 1) (by omega); omega
theorem fit_of_good {f : Nat → Cel} {n : Nat} {size : Nat} (h : ¬ AnyBad f n) (hn : n ≤ 200) (hs : sizeB (size : Int) = true) (hr : ¬ roomF size f n < 0) : Fit size n f := by
  simp only [sizeB, Bool.and_eq_true, decide_eq_true_eq] at hs
  refine ⟨hn, by omega, by omega, fun i hi => (good_at h i hi).1, fun i hi => ?_, fun i hi => (good_at h i hi).2.2, ?_⟩
  · unfold lastF
    rw [if_neg (by omega)]
    exact lines_up h i (n - 1) (by omega) (by omega)
  · unfold roomF at hr; omega

set_option maxHeartbeats 1000000 in
theorem refFill_any (size : Int) (A : Option Addr) (cap n : Nat) (f : Nat → Cel) (w : World) (hz0 : -9223372036854775808 ≤ size) (hz1 : size ≤ 9223372036854775807) (hn : n ≤ 200) (hs : SlC w A n f) (hsz : ∀ i, i < n → (f i).2.size ≤ 140737488355328) :
    Calls Try.prog 17 #[.int .i64 size, .slice A n cap] w fun e w' => e = .returned (.tuple #[.string (fillRes size n f).1, .int .i64 (fillRes size n f).2]) ∧ Ext w w' := by
  go_enter Try.func17, Try.ntmps17
  go_wp2
  go_loopw [6] (fun i wr => ∃ k : Nat, k ≤ n ∧ i = .int .i64 k ∧ ¬ AnyBad f k ∧ Ext w wr) (fun i _ => n - (intOf i).toNat)
  case atStart => exact ⟨0, by omega, rfl, fun ⟨i, hi, _⟩ => by omega, Ext.refl w⟩
  case round =>
    obtain ⟨k, hk, rfl, hgood, her⟩ := hrel
    have HG := Lib.hid hgood
    clear hgood
    by_cases hlt : k < n
    · obtain ⟨b, off, rfl, h1w, h2w⟩ := hs.at_ k hlt
      have h1 := her.cell h1w
      have h2 := her.cell h2w
      by_cases c1 : (f k).1 < 1
      · have d1 : decide ((f k).1 < 1) = true := by simp [c1]
        go_wp2_with fail
        go_quiet (fail)
        go_wp2
        go_ret2
        have hb : AnyBad f n := ⟨k, hlt, .inl c1⟩
        exact ⟨ret_pair (by simp [fillRes, hb]) (by simp [fillRes, hb]), her.drewN _⟩
      have d1 : decide ((f k).1 < 1) = false := by simp; omega
      by_cases c2 : 200 < (f k).1
      · have d2 : decide (200 < (f k).1) = true := by simp [c2]
        go_wp2_with fail
        go_quiet (fail)
        go_wp2
        go_ret2
        have hb : AnyBad f n := ⟨k, hlt, .inr (.inl c2)⟩
        exact ⟨ret_pair (by simp [fillRes, hb]) (by simp [fillRes, hb]), her.drewN _⟩
      have d2 : decide (200 < (f k).1) = false := by simp; omega
      have c1' : 1 ≤ (f k).1 := by omega
      have c2' : (f k).1 ≤ 200 := by omega
      clear c1 c2
      have e5 : (f k).2.size = 0 ∨ 0 < (f k).2.size := by omega
      have t5 : (f k).2.toList = [] ↔ (f k).2.size = 0 := toList_nil _
      by_cases c3 : k = 0
      · have d3 : decide (0 < k) = false := by simp [c3]
        have d3' : decide ((0 : Int) < (k : Int)) = false := by simp [c3]
        have c3' : ¬ 0 < k := by omega
        clear c3
        rcases e5 with c5 | c5
        · have d5 : (f k).2.toList = [] := t5.2 c5
          have d6 : (f k).2.toList.isEmpty = true := by rw [d5]; rfl
          clear t5
          go_wp2_with fail
          go_quiet (fail)
          go_wp2
          go_ret2
          have hb : AnyBad f n := ⟨k, hlt, .inr (.inr (.inr c5))⟩
          exact ⟨ret_pair (by simp [fillRes, hb]) (by simp [fillRes, hb]), her.drewN _⟩
        · have d5 : (f k).2.toList.isEmpty = false := by
            cases hq : (f k).2.toList with
            | nil => have := t5.1 hq; omega
            | cons x l => rfl
          have HN := Lib.hid (show ¬ BadF f k by unfold BadF; omega)
          clear t5
          go_wp2_with fail
          go_quiet (fail)
          go_wp2
          go_roundw
          case rel =>
            refine ⟨k + 1, by omega, by go_num, ?_, her.drewN _⟩
            rintro ⟨i, hi, hb⟩
            rcases Nat.lt_or_ge i k with h | h
            · exact HG.out ⟨i, h, hb⟩
            · obtain rfl : i = k := by omega
              exact HN.out hb
          case measure => simp [intOf]; omega
      have c3' : 0 < k := by omega
      have d3 : decide (0 < k) = true := by simp [c3']
      have d3' : decide ((0 : Int) < (k : Int)) = true := by simp [c3']
      obtain ⟨b', off', e', g1w, g2w⟩ := hs.at_ (k - 1) (by omega)
      obtain ⟨rfl, rfl⟩ : b = b' ∧ off = off' := by simpa using e'
      clear e'
      have g1 := her.cell g1w
      by_cases c4 : (f k).1 ≤ (f (k - 1)).1
      · have d4 : decide ((f k).1 ≤ (f (k - 1)).1) = true := by simp [c4]
        go_wp2_with fail
        go_quiet (fail)
        go_wp2
        go_ret2
        have hb : AnyBad f n := ⟨k, hlt, .inr (.inr (.inl ⟨c3', c4⟩))⟩
        exact ⟨ret_pair (by simp [fillRes, hb]) (by simp [fillRes, hb]), her.drewN _⟩
      have d4 : decide ((f k).1 ≤ (f (k - 1)).1) = false := by simp; omega
      rcases e5 with c5 | c5
      · have d5 : (f k).2.toList = [] := t5.2 c5
        have d6 : (f k).2.toList.isEmpty = true := by rw [d5]; rfl
        clear t5
        go_wp2_with fail
        go_quiet (fail)
        go_wp2
        go_ret2
        have hb : AnyBad f n := ⟨k, hlt, .inr (.inr (.inr c5))⟩
        exact ⟨ret_pair (by simp [fillRes, hb]) (by simp [fillRes, hb]), her.drewN _⟩
      · have d5 : (f k).2.toList.isEmpty = false := by
          cases hq : (f k).2.toList with
          | nil => have := t5.1 hq; omega
          | cons x l => rfl
        have HN := Lib.hid (show ¬ BadF f k by unfold BadF; omega)
        clear t5
        go_wp2_with fail
        go_quiet (fail)
        go_wp2
        go_roundw
        case rel =>
          refine ⟨k + 1, by omega, by go_num, ?_, her.drewN _⟩
          rintro ⟨i, hi, hb⟩
          rcases Nat.lt_or_ge i k with h | h
          · exact HG.out ⟨i, h, hb⟩
          · obtain rfl : i = k := by omega
            exact HN.out hb
        case measure => simp [intOf]; omega
    · obtain rfl : k = n := by omega
      have hA : ¬ AnyBad f k := HG.out
      have hL := last_of_good hA
      have hsr := hs.ext her
      cases hz : sizeB size
      · have hr : fillRes size k f = (⟨#[]⟩, 7) := by simp [fillRes, hA, hz]
        have HR := Lib.hid hr
        clear hr hA
        go_wp2_with (go_at_call 46; refine (refSize_any _ _ hz0 hz1).mono ?_; rintro e w' ⟨rfl, rfl⟩)
        go_ret2
        exact ⟨by rw [HR.out]; rfl, her⟩
      · have hz' := hz
        simp only [sizeB, Bool.and_eq_true, decide_eq_true_eq] at hz'
        have z1 : 32 ≤ size := hz'.1.1
        have z2 : size ≤ 4096 := hz'.1.2
        clear hz'
        by_cases hm : roomF size f k < 0
        · have hr : fillRes size k f = (⟨#[]⟩, 13) := by simp [fillRes, hA, hz, hm]
          have HR := Lib.hid hr
          clear hr hA
          go_wp2_with (first
            | (go_at_call 46; refine (refSize_any _ _ hz0 hz1).mono ?_; rintro e w' ⟨rfl, rfl⟩)
            | (go_at_call 51; refine (refRoom_any _ _ _ _ f _ hn hsr hsz (by omega) (by omega) (by omega) (by omega)).mono ?_; rintro e w' ⟨rfl, rfl⟩))
          go_ret2
          exact ⟨by rw [HR.out]; rfl, her⟩
        · obtain ⟨sz, hsz'⟩ := Int.eq_ofNat_of_zero_le (show 0 ≤ size by omega)
          subst hsz'
          have hF : Fit sz k f := fit_of_good hA (by omega) hz hm
          have hr : fillRes sz k f = (⟨(bufF sz k f k).toArray⟩, 0) := by simp [fillRes, hA, hz, hm]
          have HR := Lib.hid hr
          clear hr hA
          go_wp2_with (first
            | (go_at_call 46; refine (refSize_any _ _ hz0 hz1).mono ?_; rintro e w' ⟨rfl, rfl⟩)
            | (go_at_call 51; refine (refRoom_any _ _ _ _ f _ hn hsr hsz (by omega) (by omega) (by omega) (by omega)).mono ?_; rintro e w' ⟨rfl, rfl⟩)
            | (go_at_call 47; refine (refBuilt_any _ _ _ _ f _ hsr hF hn).mono ?_; rintro e w' ⟨rfl, hb⟩))
          go_ret2
          exact ⟨by rw [HR.out]; rfl, her.trans hb⟩

theorem refNew_any (size : Int) (w : World) (hz0 : -9223372036854775808 ≤ size) (hz1 : size ≤ 9223372036854775807) :
    Calls Try.prog 15 #[.int .i64 size] w fun e w' => e = .returned (.tuple #[.string (fillRes size 0 fun _ => (0, ⟨#[]⟩)).1, .int .i64 (fillRes size 0 fun _ => (0, ⟨#[]⟩)).2]) ∧ Ext w w' := by
  have hA : ¬ AnyBad (fun _ => ((0, ⟨#[]⟩) : Cel)) 0 := fun ⟨i, hi, _⟩ => by omega
  cases hz : sizeB size
  · have hr : (fillRes size 0 fun _ => (0, ⟨#[]⟩)) = (⟨#[]⟩, 7) := by simp [fillRes, hA, hz]
    have HR := Lib.hid hr
    clear hr hA
    go_enter Try.func15, Try.ntmps15
    go_wp2_with (go_at_call 46; refine (refSize_any _ _ hz0 hz1).mono ?_; rintro e w' ⟨rfl, rfl⟩)
    go_ret2
    exact ⟨by rw [HR.out]; rfl, Ext.refl _⟩
  · have hz' := hz
    simp only [sizeB, Bool.and_eq_true, decide_eq_true_eq] at hz'
    have z1 : 32 ≤ size := hz'.1.1
    have z2 : size ≤ 4096 := hz'.1.2
    clear hz'
    obtain ⟨sz, hsz'⟩ := Int.eq_ofNat_of_zero_le (show 0 ≤ size by omega)
    subst hsz'
    have hm : ¬ roomF sz (fun _ => ((0, ⟨#[]⟩) : Cel)) 0 < 0 := by simp [roomF, lastF, bytesF]; omega
    have hF : Fit sz 0 (fun _ => ((0, ⟨#[]⟩) : Cel)) := fit_of_good hA (by omega) hz hm
    have hr : (fillRes sz 0 fun _ => (0, ⟨#[]⟩)) = (⟨(bufF sz 0 (fun _ => ((0, ⟨#[]⟩) : Cel)) 0).toArray⟩, 0) := by simp [fillRes, hA, hz, hm]
    have HR := Lib.hid hr
    clear hr hA
    go_enter Try.func15, Try.ntmps15
    go_wp2_with (first
      | (go_at_call 46; refine (refSize_any _ _ hz0 hz1).mono ?_; rintro e w' ⟨rfl, rfl⟩)
      | (go_at_call 47; refine (refBuilt_any _ _ _ 0 (fun _ => (0, ⟨#[]⟩)) _ ⟨fun i hi => by omega⟩ hF (by omega)).mono ?_; rintro e w' ⟨rfl, hb⟩))
    go_ret2
    exact ⟨by rw [HR.out]; rfl, hb⟩
end Go.Proofs.Ytfinljcembipkaa
