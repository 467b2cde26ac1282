/- Names: of the reference. -/
import Derived.Test.YtepgpejdnlejnaaDoorItE
namespace Go.Proofs.YtepgpejdnlejnaaDoor
open Go.RowKit
set_option linter.unusedVariables false
set_option linter.unusedSimpArgs false
set_option linter.unusedSectionVars false
set_option maxRecDepth 20000
attribute [local go_sem] Oper.semAt_some

set_option maxHeartbeats 2000000 in
theorem rname_any (s : ByteArray) (w : World) : Calls Tryd.prog 17 #[.string s] w fun e w' => e = .returned (.bool (nameF s)) ∧ w' = w := by
  by_cases h0 : s.size = 0
  · obtain rfl := empty_of h0
    rw [nameF_no (by rintro ⟨⟨h, _⟩, _⟩; have : (1 : Nat) ≤ 0 := h; omega)]
    go_enter Tryd.func17, Tryd.ntmps17
    go_wp2
    go_ret
    exact ⟨rfl, rfl⟩
  · have h00 : decide ((s.size : Int) < 1) = false := decide_eq_false (by omega)
    have h01 : (1 : Int) ≤ s.size := by omega
    by_cases h1 : s.size ≤ 16
    · have h1' : (s.size : Int) ≤ 16 := by omega
      have h1b : decide ((16 : Int) < s.size) = false := decide_eq_false (by omega)
      go_enter Tryd.func17, Tryd.ntmps17
      go_wp2
      go_loopw [3, 4] (fun i _ wr => ∃ k : Nat, k ≤ s.size ∧ i = .int .i64 k ∧ (∀ j, j < k → innerB (byteN s j) = true) ∧ (0 < k → smallB (byteN s 0) = true) ∧ wr = w) (fun i _ _ => s.size - (intOf i).toNat)
      case atStart => exact ⟨0, by omega, rfl, by intro j hj; omega, by omega, rfl⟩
      case round =>
        obtain ⟨k, hk, rfl, hall, h0s, rfl⟩ := hrel
        by_cases hlt : k < s.size
        · have c1 : (k : Int) < s.size := by omega
          have hik := fun w => str_index s k hlt w
          have d1 : IntKind.i64.wrap ((k : Int) + 1) = (k : Int) + 1 := IntWalk.i64_in _ ⟨by omega, by omega⟩
          obtain ⟨c, hc⟩ : ∃ c, byteN s k = c := ⟨_, rfl⟩
          rw [hc] at hik
          have HC := Lib.hid hc
          clear hc
          by_cases hs1 : 97 ≤ c
          · by_cases hs2 : c ≤ 122
            · have Hy : Hid ((∀ j, j < k + 1 → innerB (byteN s j) = true) ∧ (0 < k + 1 → smallB (byteN s 0) = true)) := Lib.hid ⟨fun j hj => by
                  by_cases hjk : j = k
                  · rw [hjk, HC.out]; unfold innerB; rw [smallB_yes (by omega)]; rfl
                  · exact hall j (by omega), fun _ => by
                  by_cases hk0 : k = 0
                  · subst hk0; rw [HC.out]; exact smallB_yes ⟨hs1, hs2⟩
                  · exact h0s (by omega)⟩
              clear hall h0s
              go_wp2
              go_roundw
              case rel => exact ⟨k + 1, by omega, by go_num, Hy.out.1, Hy.out.2, by first | trivial | rfl⟩
              case measure => simp [intOf]; omega
            · have hs2' : 122 < c := by omega
              have hs2b : decide (c ≤ 122) = false := decide_eq_false hs2
              clear hs2
              by_cases hk0 : k = 0
              · have hk1 : ((k : Int) == 0) = true := by simp; omega
                have HK0 := Lib.hid hk0
                clear hk0
                have Hn : Hid (nameF s = false) := Lib.hid (nameF_no (by
                  rintro ⟨_, hz, hi⟩
                  have := HC.out; rw [HK0.out] at this; rw [this] at hz; rw [smallB_no (by omega)] at hz; cases hz))
                clear hall h0s
                go_wp2
                all_goals
                  go_ret
                  exact ⟨by rw [Hn.out]; rfl, rfl⟩
              · have hk1 : ((k : Int) == 0) = false := by simp; omega
                have hk2 : 0 < k := by omega
                by_cases h95 : c = 95
                · subst h95
                  have Hy : Hid ((∀ j, j < k + 1 → innerB (byteN s j) = true) ∧ (0 < k + 1 → smallB (byteN s 0) = true)) := Lib.hid ⟨fun j hj => by
                      by_cases hjk : j = k
                      · rw [hjk, HC.out]; rfl
                      · exact hall j (by omega), fun _ => by
                      exact h0s (by omega)⟩
                  clear hall h0s
                  go_wp2
                  go_roundw
                  case rel => exact ⟨k + 1, by omega, by go_num, Hy.out.1, Hy.out.2, by first | trivial | rfl⟩
                  case measure => simp [intOf]; omega
                · have hc95 : (c == 95) = false := by simpa using h95
                  by_cases h48 : c < 48
                  · have Hn : Hid (nameF s = false) := Lib.hid (nameF_no (by
                      rintro ⟨_, hz, hi⟩
                      have := hi k hlt; rw [HC.out] at this; unfold innerB at this; rw [smallB_no (by omega), decide_eq_false (by omega), hc95] at this; cases this))
                    clear hall h0s
                    go_wp2
                    all_goals
                      go_ret
                      exact ⟨by rw [Hn.out]; rfl, rfl⟩
                  · have h48' : 48 ≤ c := by omega
                    have h48b : decide (c < 48) = false := decide_eq_false h48
                    by_cases h57 : 57 < c
                    · have Hn : Hid (nameF s = false) := Lib.hid (nameF_no (by
                        rintro ⟨_, hz, hi⟩
                        have := hi k hlt; rw [HC.out] at this; unfold innerB at this; rw [smallB_no (by omega), decide_eq_false (by omega), hc95] at this; cases this))
                      clear hall h0s
                      go_wp2
                      all_goals
                        go_ret
                        exact ⟨by rw [Hn.out]; rfl, rfl⟩
                    · have h57' : c ≤ 57 := by omega
                      have h57b : decide (57 < c) = false := decide_eq_false h57
                      have Hy : Hid ((∀ j, j < k + 1 → innerB (byteN s j) = true) ∧ (0 < k + 1 → smallB (byteN s 0) = true)) := Lib.hid ⟨fun j hj => by
                          by_cases hjk : j = k
                          · rw [hjk, HC.out]; unfold innerB; rw [decide_eq_true (by omega)]; simp
                          · exact hall j (by omega), fun _ => by
                          exact h0s (by omega)⟩
                      clear hall h0s
                      go_wp2
                      go_roundw
                      case rel => exact ⟨k + 1, by omega, by go_num, Hy.out.1, Hy.out.2, by first | trivial | rfl⟩
                      case measure => simp [intOf]; omega
          · have hs1' : c < 97 := by omega
            have hs1b : decide (97 ≤ c) = false := decide_eq_false hs1
            clear hs1
            by_cases hk0 : k = 0
            · have hk1 : ((k : Int) == 0) = true := by simp; omega
              have HK0 := Lib.hid hk0
              clear hk0
              have Hn : Hid (nameF s = false) := Lib.hid (nameF_no (by
                rintro ⟨_, hz, hi⟩
                have := HC.out; rw [HK0.out] at this; rw [this] at hz; rw [smallB_no (by omega)] at hz; cases hz))
              clear hall h0s
              go_wp2
              all_goals
                go_ret
                exact ⟨by rw [Hn.out]; rfl, rfl⟩
            · have hk1 : ((k : Int) == 0) = false := by simp; omega
              have hk2 : 0 < k := by omega
              by_cases h95 : c = 95
              · subst h95
                have Hy : Hid ((∀ j, j < k + 1 → innerB (byteN s j) = true) ∧ (0 < k + 1 → smallB (byteN s 0) = true)) := Lib.hid ⟨fun j hj => by
                    by_cases hjk : j = k
                    · rw [hjk, HC.out]; rfl
                    · exact hall j (by omega), fun _ => by
                    exact h0s (by omega)⟩
                clear hall h0s
                go_wp2
                go_roundw
                case rel => exact ⟨k + 1, by omega, by go_num, Hy.out.1, Hy.out.2, by first | trivial | rfl⟩
                case measure => simp [intOf]; omega
              · have hc95 : (c == 95) = false := by simpa using h95
                by_cases h48 : c < 48
                · have Hn : Hid (nameF s = false) := Lib.hid (nameF_no (by
                    rintro ⟨_, hz, hi⟩
                    have := hi k hlt; rw [HC.out] at this; unfold innerB at this; rw [smallB_no (by omega), decide_eq_false (by omega), hc95] at this; cases this))
                  clear hall h0s
                  go_wp2
                  all_goals
                    go_ret
                    exact ⟨by rw [Hn.out]; rfl, rfl⟩
                · have h48' : 48 ≤ c := by omega
                  have h48b : decide (c < 48) = false := decide_eq_false h48
                  by_cases h57 : 57 < c
                  · have Hn : Hid (nameF s = false) := Lib.hid (nameF_no (by
                      rintro ⟨_, hz, hi⟩
                      have := hi k hlt; rw [HC.out] at this; unfold innerB at this; rw [smallB_no (by omega), decide_eq_false (by omega), hc95] at this; cases this))
                    clear hall h0s
                    go_wp2
                    all_goals
                      go_ret
                      exact ⟨by rw [Hn.out]; rfl, rfl⟩
                  · have h57' : c ≤ 57 := by omega
                    have h57b : decide (57 < c) = false := decide_eq_false h57
                    have Hy : Hid ((∀ j, j < k + 1 → innerB (byteN s j) = true) ∧ (0 < k + 1 → smallB (byteN s 0) = true)) := Lib.hid ⟨fun j hj => by
                        by_cases hjk : j = k
                        · rw [hjk, HC.out]; unfold innerB; rw [decide_eq_true (by omega)]; simp
                        · exact hall j (by omega), fun _ => by
                        exact h0s (by omega)⟩
                    clear hall h0s
                    go_wp2
                    go_roundw
                    case rel => exact ⟨k + 1, by omega, by go_num, Hy.out.1, Hy.out.2, by first | trivial | rfl⟩
                    case measure => simp [intOf]; omega
        · obtain rfl : k = s.size := by omega
          have Hn : Hid (nameF s = true) := Lib.hid (nameF_iff.2 ⟨⟨by omega, h1⟩, h0s (by omega), hall⟩)
          clear hall h0s
          go_wp2
          go_ret
          exact ⟨by rw [Hn.out]; rfl, rfl⟩
    · rw [nameF_no (by rintro ⟨⟨_, h⟩, _⟩; omega)]
      have h1' : (16 : Int) < s.size := by omega
      go_enter Tryd.func17, Tryd.ntmps17
      go_wp2
      go_ret
      exact ⟨rfl, rfl⟩
end Go.Proofs.YtepgpejdnlejnaaDoor
