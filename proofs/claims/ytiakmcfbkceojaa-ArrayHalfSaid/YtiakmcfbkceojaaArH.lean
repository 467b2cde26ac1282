/- Arrays: slices.Concat of blocks; Keys and Count of both. -/
import Derived.Test.YtiakmcfbkceojaaArG
namespace Go.Proofs.Ytiakmcfbkceojaa
open Go.RowKit Go.Maps
set_option linter.unusedVariables false
set_option linter.unusedSimpArgs false
set_option maxRecDepth 20000

/-- how many keys the first k blocks have -/
def lenT (LL : List (List Int)) (k : Nat) : Nat := (LL.take k).flatten.length
theorem lenT_le (LL : List (List Int)) (k : Nat) : lenT LL k ≤ LL.flatten.length := flat_take_le LL k
theorem lenT_succ {LL : List (List Int)} {k : Nat} (h : k < LL.length) : lenT LL (k + 1) = lenT LL k + (nthA LL k).length := by
  unfold lenT; rw [flat_take h, List.length_append]
theorem lenT_end (LL : List (List Int)) : lenT LL LL.length = LL.flatten.length := by unfold lenT; rw [List.take_length]
theorem concat_any (P : Option Addr) (cap : Nat) (Q : Nat → Option Addr) (C : Nat → Nat) (LL : List (List Int)) (w : World) (h : SlA w P cap Q C LL) (hne : ∀ l ∈ LL, l ≠ []) (ht : LL.flatten.length ≤ 1000) :
    Calls Try.prog 64 #[.slice P LL.length cap] w fun e w' => ∃ v, e = .returned v ∧ w'.ownsRow w.heap.size 3 1 v LL.flatten.length (intVs LL.flatten) ∧ Ext w w' := by
  have hlen := h.len
  go_enter Try.func64, Try.ntmps64
  go_wp2
  go_loop [11, 3] (fun i n => ∃ k : Nat, k ≤ LL.length ∧ i = .int .i64 k ∧ n = .int .i64 (lenT LL k)) (fun i _ => LL.length - (intOf i).toNat)
  case atStart => exact ⟨0, by omega, rfl, rfl⟩
  case round =>
    obtain ⟨k, hk, rfl, rfl⟩ := hrel
    by_cases hlt : k < LL.length
    · obtain ⟨bb, off, hP, hc⟩ := h.at_ k hlt
      subst hP
      have hle := lenT_le LL (k + 1)
      have Hf := Lib.hid (lenT_succ hlt)
      rw [Hf.out] at hle
      have c1 : (k : Int) < LL.length := by omega
      have c2 : ¬ ((lenT LL k : Int) + (nthA LL k).length < 0) := by omega
      go_wp2
      go_round
      case rel => exact ⟨k + 1, by omega, by go_num, by rw [Hf.out]; go_num⟩
      case measure => simp [intOf]; omega
    · obtain rfl : k = LL.length := by omega
      have hle := lenT_le LL LL.length
      have hG := grow_any (lenT LL LL.length) w (by omega)
      go_wp2_with (go_at_call 75; refine hG.mono ?_; rintro e w1 ⟨v1, rfl, hown1, hx1⟩)
      go_loopw [27, 6] (fun i v wr => FlatR LL w i v wr) (fun i _ _ => LL.length - (intOf i).toNat)
      case atStart => exact ⟨0, by omega, rfl, hown1, hx1⟩
      case round =>
        obtain ⟨k, hk, rfl, hM, hx⟩ := hrel
        clear hown1 hx1 hG
        by_cases hlt : k < LL.length
        · obtain ⟨bb, off, hP, hc⟩ := h.at_ k hlt
          subst hP
          replace hc := hx.cell hc
          have hn0 := List.length_pos_iff.2 (hne _ (nthA_mem hlt))
          obtain ⟨b2, off2, hQ, _⟩ := (h.row k hlt).at_ 0 hn0
          have hrow := (h.row k hlt).ext hx
          rw [hQ] at hc hrow
          have hf := flat_take hlt
          have hle := flat_take_le LL (k + 1)
          rw [hf, List.length_append] at hle
          have hblk := hM.lt
          obtain ⟨v', w2, hrun, hown2, hg2, _⟩ := append_ints wr w.heap.size u6 _ (nthA LL k) b2 off2 (C k) hM hrow (by omega) hx.size
          rw [← hf] at hown2
          have hx2 : Ext w w2 := Below.grown hx hg2 hx.size (fun j hj => (hblk j hj).1)
          have c1 : (k : Int) < LL.length := by omega
          clear hQ hf hle hM hrow
          go_wp2_with (at_builtin; refine Lib.wpList_append_run _ rfl _ _ _ _ rfl _ _ rfl rfl _ _ hrun ?_)
          go_roundw
          case rel => exact ⟨k + 1, by omega, by go_num, hown2, hx2⟩
          case measure => simp [intOf]; omega
        · obtain rfl : k = LL.length := by omega
          rw [List.take_length] at hM
          go_wp2
          go_ret
          exact ⟨_, rfl, hM, hx⟩
theorem listed_any (P : Option Addr) (cap : Nat) (Q : Nat → Option Addr) (C : Nat → Nat) (LL : List (List Int)) (w : World) (h : SlA w P cap Q C LL) (hne : ∀ l ∈ LL, l ≠ []) (ht : LL.flatten.length ≤ 1000) :
    Calls Try.prog 46 #[.slice P LL.length cap] w fun e w' => ∃ v, e = .returned v ∧ w'.ownsRow w.heap.size 3 1 v LL.flatten.length (intVs LL.flatten) ∧ Ext w w' := by
  have hC := concat_any P cap Q C LL w h hne ht
  go_enter Try.func46, Try.ntmps46
  go_wp2_with (go_at_call 64; refine hC.mono ?_; rintro e w1 ⟨v1, rfl, hown1, hx1⟩)
  go_ret
  exact ⟨_, rfl, hown1, hx1⟩
theorem ArOk.ne {b : Int} {LL : List (List Int)} (h : ArOk b LL) : ∀ l ∈ LL, l ≠ [] := fun l hl => (h.blocks l hl).1
theorem ArOk.le {b : Int} {LL : List (List Int)} (h : ArOk b LL) : LL.flatten.length ≤ 1000 := by have := h.keys.2.2; omega
theorem validF_no {b : Int} {LL : List (List Int)} (h : ¬ ArOk b LL) : validF b LL = false := by
  cases hv : validF b LL with
  | false => rfl
  | true => exact absurd (validF_iff.1 hv) h

/-- how Keys ends -/
def KeysPost (LL : List (List Int)) (w : World) (e : Ending) (w' : World) : Prop := ∃ v, e = .returned (.tuple #[v, .int .i64 0]) ∧ w'.ownsRow w.heap.size 3 1 v LL.flatten.length (intVs LL.flatten) ∧ Ext w w'
section
variable (b : Int) (P : Option Addr) (cap : Nat) (Q : Nat → Option Addr) (C : Nat → Nat) (LL : List (List Int)) (w : World) (h : SlA w P cap Q C LL)
include h
theorem akeys_yes (hok : ArOk b LL) (hv : ∀ l ∈ LL, ∀ x ∈ l, In64 x) : Calls Try.prog 13 #[.int .i64 b, .slice P LL.length cap] w (KeysPost LL w) := by
  have hV := avalid_any b P cap Q C LL w h hv
  rw [validF_iff.2 hok] at hV
  have hL := fun W hW => listed_any P cap Q C LL W hW hok.ne hok.le
  go_enter Try.func13, Try.ntmps13
  go_wp2_with (first
    | (go_at_call 15; refine hV.mono ?_; rintro e w1 ⟨rfl, hx1⟩)
    | (go_at_call 46; refine (hL _ (by exact h.ext hx1)).mono ?_; rintro e w2 ⟨v, rfl, hown, hx2⟩))
  go_ret2
  exact ⟨_, rfl, rowBase hown hx1.size, hx1.trans hx2⟩
theorem akeys_no (hok : ¬ ArOk b LL) (hv : ∀ l ∈ LL, ∀ x ∈ l, In64 x) : Calls Try.prog 13 #[.int .i64 b, .slice P LL.length cap] w fun e w' => e = .returned (.tuple #[.slice none 0 0, .int .i64 1]) ∧ Ext w w' := by
  have hV := avalid_any b P cap Q C LL w h hv
  rw [validF_no hok] at hV
  go_enter Try.func13, Try.ntmps13
  go_wp2_with (go_at_call 15; refine hV.mono ?_; rintro e w1 ⟨rfl, hx1⟩)
  go_ret2
  exact ⟨rfl, hx1⟩
theorem acount_yes (hok : ArOk b LL) (hv : ∀ l ∈ LL, ∀ x ∈ l, In64 x) : Calls Try.prog 21 #[.int .i64 b, .slice P LL.length cap] w fun e w' => e = .returned (.tuple #[.int .i64 LL.flatten.length, .int .i64 0]) ∧ Ext w w' := by
  have hV := avalid_any b P cap Q C LL w h hv
  rw [validF_iff.2 hok] at hV
  have hL : ∀ W, SlA W P cap Q C LL → Calls Try.prog 46 #[.slice P LL.length cap] W fun e w' => ∃ P' cap', e = .returned (.slice P' LL.flatten.length cap') ∧ Ext W w' := fun W hW => (listed_any P cap Q C LL W hW hok.ne hok.le).mono (by
    rintro e w' ⟨v, rfl, hown, hx⟩
    obtain ⟨P', cap', rfl, _⟩ := slI_of_row hown
    exact ⟨P', cap', rfl, hx⟩)
  generalize LL.flatten.length = n at *
  go_enter Try.func21, Try.ntmps21
  go_wp2_with (first
    | (go_at_call 15; refine hV.mono ?_; rintro e w1 ⟨rfl, hx1⟩)
    | (go_at_call 46; refine (hL _ (by exact h.ext hx1)).mono ?_; rintro e w2 ⟨P', cap', rfl, hx2⟩))
  go_ret2
  exact ⟨rfl, hx1.trans hx2⟩
theorem acount_no (hok : ¬ ArOk b LL) (hv : ∀ l ∈ LL, ∀ x ∈ l, In64 x) : Calls Try.prog 21 #[.int .i64 b, .slice P LL.length cap] w fun e w' => e = .returned (.tuple #[.int .i64 0, .int .i64 1]) ∧ Ext w w' := by
  have hV := avalid_any b P cap Q C LL w h hv
  rw [validF_no hok] at hV
  go_enter Try.func21, Try.ntmps21
  go_wp2_with (go_at_call 15; refine hV.mono ?_; rintro e w1 ⟨rfl, hx1⟩)
  go_ret2
  exact ⟨rfl, hx1⟩
theorem rkeys_yes (hok : ArOk b LL) : Calls Try.prog 20 #[.int .i64 b, .slice P LL.length cap] w (KeysPost LL w) := by
  have hV := rvalid_any b P cap Q C LL w h
  rw [validF_iff.2 hok] at hV
  have hL := fun W hW => rflat_any P cap Q C LL W hW hok.ne hok.le
  go_enter Try.func20, Try.ntmps20
  go_wp2_with (first
    | (go_at_call 19; refine hV.mono ?_; rintro e w1 ⟨rfl, hx1⟩)
    | (go_at_call 48; refine (hL _ (by exact h.ext hx1)).mono ?_; rintro e w2 ⟨v, rfl, hown, hx2⟩))
  go_ret2
  exact ⟨_, rfl, rowBase hown hx1.size, hx1.trans hx2⟩
theorem rkeys_no (hok : ¬ ArOk b LL) : Calls Try.prog 20 #[.int .i64 b, .slice P LL.length cap] w fun e w' => e = .returned (.tuple #[.slice none 0 0, .int .i64 1]) ∧ Ext w w' := by
  have hV := rvalid_any b P cap Q C LL w h
  rw [validF_no hok] at hV
  go_enter Try.func20, Try.ntmps20
  go_wp2_with (go_at_call 19; refine hV.mono ?_; rintro e w1 ⟨rfl, hx1⟩)
  go_ret2
  exact ⟨rfl, hx1⟩
end
end Go.Proofs.Ytiakmcfbkceojaa
