/- Arrays: key, room, half, Index, Has; Wrong of the program. -/
import Derived.Test.YtgdbhmdhonnmgaaDoorArA
import Derived.Deep.LoopGhost
namespace Go.Proofs.YtgdbhmdhonnmgaaDoor
open Go.RowKit Go.Maps
set_option linter.unusedVariables false
set_option maxRecDepth 20000
set_option linter.unusedSimpArgs false
set_option maxRecDepth 20000

theorem akey_any (x : Int) (w : World) : Calls Tryd.prog 24 #[.int .i64 x] w fun e w' => e = .returned (.bool (keyB x)) ∧ w = w' := by
  by_cases h1 : 1 ≤ x
  · by_cases h2 : x ≤ 1000000
    · rw [show keyB x = true from by simp [keyB, h1, h2]]
      go_enter Tryd.func24, Tryd.ntmps24
      go_wp2
      go_ret
      exact ⟨rfl, rfl⟩
    · rw [show keyB x = false from by simp [keyB]; omega]
      go_enter Tryd.func24, Tryd.ntmps24
      go_wp2
      go_ret
      exact ⟨rfl, rfl⟩
  · rw [show keyB x = false from by simp [keyB]; omega]
    go_enter Tryd.func24, Tryd.ntmps24
    go_wp2
    go_ret
    exact ⟨rfl, rfl⟩
theorem rkey_any (x : Int) (w : World) : Calls Tryd.prog 49 #[.int .i64 x] w fun e w' => e = .returned (.bool (keyB x)) ∧ w = w' := by
  by_cases h1 : 1 ≤ x
  · by_cases h2 : x ≤ 1000000
    · rw [show keyB x = true from by simp [keyB, h1, h2]]
      go_enter Tryd.func49, Tryd.ntmps49
      go_wp2
      go_ret
      exact ⟨rfl, rfl⟩
    · rw [show keyB x = false from by simp [keyB]; omega]
      go_enter Tryd.func49, Tryd.ntmps49
      go_wp2
      go_ret
      exact ⟨rfl, rfl⟩
  · rw [show keyB x = false from by simp [keyB]; omega]
    go_enter Tryd.func49, Tryd.ntmps49
    go_wp2
    go_ret
    exact ⟨rfl, rfl⟩
theorem aroom_any (x : Int) (w : World) : Calls Tryd.prog 25 #[.int .i64 x] w fun e w' => e = .returned (.bool (roomB x)) ∧ w = w' := by
  by_cases h1 : 2 ≤ x
  · by_cases h2 : x ≤ 50
    · rw [show roomB x = true from by simp [roomB, h1, h2]]
      go_enter Tryd.func25, Tryd.ntmps25
      go_wp2
      go_ret
      exact ⟨rfl, rfl⟩
    · rw [show roomB x = false from by simp [roomB]; omega]
      go_enter Tryd.func25, Tryd.ntmps25
      go_wp2
      go_ret
      exact ⟨rfl, rfl⟩
  · rw [show roomB x = false from by simp [roomB]; omega]
    go_enter Tryd.func25, Tryd.ntmps25
    go_wp2
    go_ret
    exact ⟨rfl, rfl⟩
theorem rsize_any (x : Int) (w : World) : Calls Tryd.prog 48 #[.int .i64 x] w fun e w' => e = .returned (.bool (roomB x)) ∧ w = w' := by
  by_cases h1 : 2 ≤ x
  · by_cases h2 : x ≤ 50
    · rw [show roomB x = true from by simp [roomB, h1, h2]]
      go_enter Tryd.func48, Tryd.ntmps48
      go_wp2
      go_ret
      exact ⟨rfl, rfl⟩
    · rw [show roomB x = false from by simp [roomB]; omega]
      go_enter Tryd.func48, Tryd.ntmps48
      go_wp2
      go_ret
      exact ⟨rfl, rfl⟩
  · rw [show roomB x = false from by simp [roomB]; omega]
    go_enter Tryd.func48, Tryd.ntmps48
    go_wp2
    go_ret
    exact ⟨rfl, rfl⟩
theorem half_any (x : Int) (w : World) (h0 : 0 ≤ x) (h1 : x ≤ 1000) : Calls Tryd.prog 42 #[.int .i64 x] w fun e w' => e = .returned (.int .i64 (x / 2)) ∧ w = w' := by
  go_enter Tryd.func42, Tryd.ntmps42
  go_wp2
  go_ret
  exact ⟨rfl, rfl⟩

/-- the first place of a number; -1 if it is not there -/
def idxI (x : Int) : List Int → Int
  | [] => -1
  | y :: r => if y = x then 0 else (if idxI x r < 0 then -1 else idxI x r + 1)
def idxFrom (x : Int) : Nat → List Int → Int
  | _, [] => -1
  | k, y :: r => if y = x then (k : Int) else idxFrom x (k + 1) r
theorem idxFrom_range (x : Int) : ∀ (l : List Int) (k : Nat), (idxFrom x k l = -1 ∧ x ∉ l) ∨ (∃ i, i < l.length ∧ nthI l i = x ∧ (∀ j, j < i → nthI l j ≠ x) ∧ idxFrom x k l = ((k + i : Nat) : Int))
  | [], k => .inl ⟨rfl, by simp⟩
  | y :: r, k => by
    by_cases h : y = x
    · exact .inr ⟨0, by simp, by simpa [nthI] using h, fun j hj => by omega, by simp [idxFrom, h]⟩
    · rcases idxFrom_range x r (k + 1) with ⟨h1, h2⟩ | ⟨i, h1, h2, h3, h4⟩
      · exact .inl ⟨by rw [idxFrom, if_neg h, h1], by simp [h2]; exact fun e => h e.symm⟩
      · refine .inr ⟨i + 1, by simp; omega, by simpa [nthI] using h2, fun j hj => ?_, by rw [idxFrom, if_neg h, h4]; omega⟩
        cases j with
        | zero => simpa [nthI] using h
        | succ j => have := h3 j (by omega); simpa [nthI] using this
theorem idxFrom_mem (x : Int) (l : List Int) (k : Nat) : decide (0 ≤ idxFrom x k l) = decide (x ∈ l) := by
  rcases idxFrom_range x l k with ⟨h1, h2⟩ | ⟨i, h1, h2, h3, h4⟩
  · rw [h1]; simp [h2]
  · rw [h4, decide_eq_true (by rw [← h2]; exact nthI_mem h1 : x ∈ l)]
    simp
    omega
theorem index_any (P : Option Addr) (cap : Nat) (l : List Int) (x : Int) (w : World) (h : SlI w P cap l) :
    Calls Tryd.prog 72 #[.slice P l.length cap, .int .i64 x] w fun e w' => e = .returned (.int .i64 (idxFrom x 0 l)) ∧ w = w' := by
  have hlen : l.length ≤ 9223372036854775807 := Nat.le_trans h.le h.cap
  go_enter Tryd.func72, Tryd.ntmps72
  go_wp2
  go_loop [5, 4] (fun i _ => ∃ k : Nat, k ≤ l.length ∧ i = .int .i64 k ∧ Hid (idxFrom x 0 l = idxFrom x k (l.drop k))) (fun i _ => l.length - (intOf i).toNat)
  case atStart => exact ⟨0, by omega, rfl, Lib.hid rfl⟩
  case round =>
    obtain ⟨k, hk, rfl, hm⟩ := hrel
    by_cases hlt : k < l.length
    · obtain ⟨b, off, hP, hc⟩ := h.at_ k hlt
      have c1 : (k : Int) < l.length := by omega
      have hd := nthI_drop hlt
      subst hP
      by_cases he : nthI l k = x
      · have Hm : Hid (idxFrom x 0 l = (k : Int)) := Lib.hid (by rw [hm.out, hd, idxFrom, if_pos he])
        have c2 : (nthI l k == x) = true := by simpa using he
        rw [he] at hc
        clear hd he hm c2
        go_wp2
        go_ret
        exact ⟨ret_int Hm.out.symm, rfl⟩
      · have Hm : Hid (idxFrom x 0 l = idxFrom x (k + 1) (l.drop (k + 1))) := Lib.hid (by rw [hm.out, hd, idxFrom, if_neg he])
        have c2 : (nthI l k == x) = false := by simpa using he
        clear hd hm
        generalize nthI l k = y at *
        go_wp2
        go_round
        case rel => exact ⟨k + 1, by omega, by go_num, Hm⟩
        case measure => simp [intOf]; omega
    · obtain rfl : k = l.length := by omega
      have Hm : Hid (idxFrom x 0 l = -1) := Lib.hid (by rw [hm.out, List.drop_length]; rfl)
      go_wp2
      go_ret
      exact ⟨ret_int Hm.out.symm, rfl⟩
theorem has_any (P : Option Addr) (cap : Nat) (l : List Int) (x : Int) (w : World) (h : SlI w P cap l) :
    Calls Tryd.prog 50 #[.slice P l.length cap, .int .i64 x] w fun e w' => e = .returned (.bool (decide (x ∈ l))) ∧ w = w' := by
  have hI := index_any P cap l x w h
  rw [← idxFrom_mem x l 0]
  generalize idxFrom x 0 l = r at *
  go_enter Tryd.func50, Tryd.ntmps50
  go_wp2_with (go_at_call 72; refine hI.mono ?_; rintro e w1 ⟨rfl, rfl⟩)
  go_ret
  exact ⟨rfl, rfl⟩
/-- some truth, and the world as it was -/
def SomeBool (w : World) (e : Ending) (w' : World) : Prop := (∃ r, e = .returned (.bool r)) ∧ w = w'
theorem light_any (P : Option Addr) (cap : Nat) (Q : Nat → Option Addr) (C : Nat → Nat) (LL : List (List Int)) (w : World) (h : SlA w P cap Q C LL) :
    Calls Tryd.prog 4 #[.slice P LL.length cap] w (SomeBool w) := by
  have hlen := h.len
  go_enter Tryd.func4, Tryd.ntmps4
  go_wp2
  go_loop [4, 3] (fun i n => ∃ (k : Nat) (x : Int), k ≤ LL.length ∧ i = .int .i64 k ∧ n = .int .i64 x) (fun i _ => LL.length - (intOf i).toNat)
  case atStart => exact ⟨0, 0, by omega, rfl, rfl⟩
  case round =>
    obtain ⟨k, x, hk, rfl, rfl⟩ := hrel
    by_cases hlt : k < LL.length
    · obtain ⟨b, off, hP, hc⟩ := h.at_ k hlt
      have c1 : (k : Int) < LL.length := by omega
      subst hP
      go_wp2
      go_round
      case rel => exact ⟨k + 1, _, by omega, by go_num, rfl⟩
      case measure => simp [intOf]; omega
    · obtain rfl : k = LL.length := by omega
      go_wp2
      go_ret
      exact ⟨⟨_, rfl⟩, rfl⟩
end Go.Proofs.YtgdbhmdhonnmgaaDoor
