/- Names: of the program and of the reference. -/
import Derived.Test.YtepgpejdnlejnaaDoorItA
namespace Go.Proofs.YtepgpejdnlejnaaDoor
open Go.RowKit
set_option linter.unusedVariables false
set_option linter.unusedSimpArgs false
set_option linter.unusedSectionVars false
set_option maxRecDepth 20000
attribute [local go_sem] Oper.semAt_some

def smallB (c : Int) : Bool := decide (97 ≤ c ∧ c ≤ 122)
def innerB (c : Int) : Bool := smallB c || decide (48 ≤ c ∧ c ≤ 57) || (c == 95)
def byteN (s : ByteArray) (i : Nat) : Int := if h : i < s.size then ((s[i]'h).toNat : Int) else 0
theorem byteN_in (s : ByteArray) (i : Nat) : 0 ≤ byteN s i ∧ byteN s i ≤ 255 := by
  unfold byteN
  split
  · next h => have := (s[i]'h).toNat_lt; omega
  · omega
def nameF (s : ByteArray) : Bool := decide (1 ≤ s.size ∧ s.size ≤ 16) && smallB (byteN s 0) && (List.range s.size).all fun i => innerB (byteN s i)
theorem nameF_iff {s : ByteArray} : nameF s = true ↔ (1 ≤ s.size ∧ s.size ≤ 16) ∧ smallB (byteN s 0) = true ∧ ∀ i, i < s.size → innerB (byteN s i) = true := by
  simp [nameF, and_assoc]
theorem nameF_no {s : ByteArray} (h : ¬ ((1 ≤ s.size ∧ s.size ≤ 16) ∧ smallB (byteN s 0) = true ∧ ∀ i, i < s.size → innerB (byteN s i) = true)) : nameF s = false := by
  cases hv : nameF s with
  | false => rfl
  | true => exact absurd (nameF_iff.1 hv) h
theorem str_index (s : ByteArray) (k : Nat) (hk : k < s.size) (w : World) : (Instr.index 9 (.string s) (.int .i64 (k : Int))).run Tryd.prog w = .ok (.int .u8 (byteN s k)) w := by
  rw [run_index_string (P := Tryd.prog) (w := w) 9 s .i64 (k : Int) Tryd.underlying9, dif_pos ⟨by omega, by omega⟩]
  unfold byteN
  rw [dif_pos hk]
  rfl
theorem smallB_no {c : Int} (h : ¬ (97 ≤ c ∧ c ≤ 122)) : smallB c = false := decide_eq_false h
theorem smallB_yes {c : Int} (h : 97 ≤ c ∧ c ≤ 122) : smallB c = true := decide_eq_true h
theorem small_any (c : Int) (w : World) : Calls Tryd.prog 56 #[.int .u8 c] w fun e w' => e = .returned (.bool (smallB c)) ∧ w' = w := by
  by_cases h1 : 97 ≤ c
  · by_cases h2 : c ≤ 122
    · go_enter Tryd.func56, Tryd.ntmps56
      go_wp2
      go_ret
      exact ⟨by rw [smallB_yes ⟨h1, h2⟩]; rfl, rfl⟩
    · go_enter Tryd.func56, Tryd.ntmps56
      go_wp2
      go_ret
      exact ⟨by rw [smallB_no (by omega)]; rfl, rfl⟩
  · go_enter Tryd.func56, Tryd.ntmps56
    go_wp2
    go_ret
    exact ⟨by rw [smallB_no (by omega)]; rfl, rfl⟩
theorem inner_any (c : Int) (w : World) : Calls Tryd.prog 57 #[.int .u8 c] w fun e w' => e = .returned (.bool (innerB c)) ∧ w' = w := by
  have hS := small_any c w
  cases hs : smallB c with
  | true =>
    rw [hs] at hS
    go_enter Tryd.func57, Tryd.ntmps57
    go_wp2_with (go_at_call 56; refine hS.mono ?_; rintro e w1 ⟨rfl, rfl⟩)
    go_ret
    exact ⟨by unfold innerB; rw [hs]; rfl, rfl⟩
  | false =>
    rw [hs] at hS
    by_cases h1 : 48 ≤ c
    · by_cases h2 : c ≤ 57
      · go_enter Tryd.func57, Tryd.ntmps57
        go_wp2_with (go_at_call 56; refine hS.mono ?_; rintro e w1 ⟨rfl, rfl⟩)
        go_ret
        exact ⟨by unfold innerB; rw [hs, decide_eq_true ⟨h1, h2⟩]; rfl, rfl⟩
      · have h3 : innerB c = (c == 95) := by
          unfold innerB
          rw [hs, decide_eq_false (by omega)]; rfl
        go_enter Tryd.func57, Tryd.ntmps57
        go_wp2_with (go_at_call 56; refine hS.mono ?_; rintro e w1 ⟨rfl, rfl⟩)
        go_ret
        exact ⟨by show Ending.returned (.bool (decide (c ≤ 57) || c == 95)) = _; rw [h3, decide_eq_false (by omega)]; rfl, rfl⟩
    · have h3 : innerB c = (c == 95) := by
        unfold innerB
        rw [hs, decide_eq_false (by omega)]; rfl
      go_enter Tryd.func57, Tryd.ntmps57
      go_wp2_with (go_at_call 56; refine hS.mono ?_; rintro e w1 ⟨rfl, rfl⟩)
      go_ret
      exact ⟨rfl, rfl⟩
set_option maxHeartbeats 1000000 in
theorem name_any (s : ByteArray) (w : World) : Calls Tryd.prog 16 #[.string s] w fun e w' => e = .returned (.bool (nameF s)) ∧ w' = w := by
  by_cases h0 : s.size = 0
  · obtain rfl : s = ⟨#[]⟩ := by
      obtain ⟨d⟩ := s
      have : d.size = 0 := h0
      have := Array.eq_empty_of_size_eq_zero this
      subst this
      rfl
    rw [nameF_no (by rintro ⟨⟨h, _⟩, _⟩; have : (1 : Nat) ≤ 0 := h; omega)]
    go_enter Tryd.func16, Tryd.ntmps16
    go_wp2
    go_ret
    exact ⟨rfl, rfl⟩
  · have hne : s.toList.isEmpty = false := by
      cases hl : s.toList with
      | nil => exact absurd ((toList_nil s).1 hl) h0
      | cons a l => rfl
    by_cases h1 : s.size ≤ 16
    · have h1' : (s.size : Int) ≤ 16 := by omega
      have hi0 : ∀ w, (Instr.index 9 (.string s) (.int .i64 0)).run Tryd.prog w = .ok (.int .u8 (byteN s 0)) w := fun w => str_index s 0 (by omega) w
      have hS := fun w => small_any (byteN s 0) w
      cases hs : smallB (byteN s 0) with
      | false =>
        rw [nameF_no (by rintro ⟨_, h, _⟩; rw [hs] at h; cases h)]
        rw [hs] at hS
        generalize byteN s 0 = c at *
        go_enter Tryd.func16, Tryd.ntmps16
        go_wp2_with (go_at_call 56; refine (hS _).mono ?_; rintro e w1 ⟨rfl, rfl⟩)
        go_ret
        exact ⟨rfl, rfl⟩
      | true =>
        rw [hs] at hS
        have hHs := Lib.hid hs
        clear hs
        obtain ⟨c0, hc0⟩ : ∃ c0, byteN s 0 = c0 := ⟨_, rfl⟩
        rw [hc0] at hS hi0
        have HC := Lib.hid hc0
        clear hc0
        go_enter Tryd.func16, Tryd.ntmps16
        go_wp2_with (go_at_call 56; refine (hS _).mono ?_; rintro e w1 ⟨rfl, rfl⟩)
        clear hS hi0
        go_loopw [19, 3] (fun i _ wr => ∃ k : Nat, k ≤ s.size ∧ i = .int .i64 k ∧ (∀ j, j < k → innerB (byteN s j) = true) ∧ wr = w1) (fun i _ _ => s.size - (intOf i).toNat)
        case atStart => exact ⟨0, by omega, rfl, by intro j hj; omega, rfl⟩
        case round =>
          obtain ⟨k, hk, rfl, hall, rfl⟩ := hrel
          by_cases hlt : k < s.size
          · have c1 : (k : Int) < s.size := by omega
            have hik := fun w => str_index s k hlt w
            have hI := fun w => inner_any (byteN s k) w
            have d1 : IntKind.i64.wrap ((k : Int) + 1) = (k : Int) + 1 := IntWalk.i64_in _ ⟨by omega, by omega⟩
            cases hin : innerB (byteN s k) with
            | false =>
              have Hn : Hid (nameF s = false) := Lib.hid (nameF_no (by rintro ⟨_, _, h⟩; rw [h k hlt] at hin; cases hin))
              rw [hin] at hI
              clear hall
              generalize byteN s k = c at *
              go_wp2_with (go_at_call 57; refine (hI _).mono ?_; rintro e w1 ⟨rfl, rfl⟩)
              go_ret
              exact ⟨by rw [Hn.out]; rfl, rfl⟩
            | true =>
              have Hall : Hid (∀ j, j < k + 1 → innerB (byteN s j) = true) := Lib.hid (fun j hj => by
                by_cases hjk : j = k
                · rw [hjk]; exact hin
                · exact hall j (by omega))
              rw [hin] at hI
              clear hall
              generalize byteN s k = c at *
              go_wp2_with (go_at_call 57; refine (hI _).mono ?_; rintro e w1 ⟨rfl, rfl⟩)
              go_roundw
              case rel => exact ⟨k + 1, by omega, by go_num, Hall.out, by first | trivial | rfl⟩
              case measure => simp [intOf]; omega
          · obtain rfl : k = s.size := by omega
            have Hn : Hid (nameF s = true) := Lib.hid (nameF_iff.2 ⟨⟨by omega, h1⟩, by rw [HC.out] at hHs; rw [HC.out]; exact hHs.out, hall⟩)
            clear hall
            go_wp2
            go_ret
            exact ⟨by rw [Hn.out]; rfl, rfl⟩
    · rw [nameF_no (by rintro ⟨⟨_, h⟩, _⟩; omega)]
      have h1' : (16 : Int) < s.size := by omega
      go_enter Tryd.func16, Tryd.ntmps16
      go_wp2
      go_ret
      exact ⟨rfl, rfl⟩
end Go.Proofs.YtepgpejdnlejnaaDoor
