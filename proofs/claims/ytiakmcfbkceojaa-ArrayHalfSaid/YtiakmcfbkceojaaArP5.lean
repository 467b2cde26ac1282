/- Arrays: Changed of both. -/
import Derived.Test.YtiakmcfbkceojaaArP4
namespace Go.Proofs.Ytiakmcfbkceojaa
open Go.RowKit Go.Maps
set_option linter.unusedVariables false
set_option linter.unusedSimpArgs false
set_option maxRecDepth 20000
attribute [local go_sem] Oper.semAt_some

/-- which of the first k blocks of Y are no block of X -/
def chgL (X Y : List (List Int)) : Nat → List Int
  | 0 => []
  | k + 1 => chgL X Y k ++ if nthA Y k ∈ X then [] else [(k : Int)]
theorem chgL_in {X Y : List (List Int)} {k : Nat} (h : nthA Y k ∈ X) : chgL X Y (k + 1) = chgL X Y k := by rw [chgL, if_pos h, List.append_nil]
theorem chgL_out {X Y : List (List Int)} {k : Nat} (h : nthA Y k ∉ X) : chgL X Y (k + 1) = chgL X Y k ++ [(k : Int)] := by rw [chgL, if_neg h]
theorem chgL_len (X Y : List (List Int)) : ∀ k, (chgL X Y k).length ≤ k
  | 0 => Nat.le_refl _
  | k + 1 => by
    have := chgL_len X Y k
    by_cases h : nthA Y k ∈ X
    · rw [chgL_in h]; omega
    · rw [chgL_out h, List.length_append]; simp; omega
def ChgR (X Y : List (List Int)) (w : World) (i v : Value) (wr : World) : Prop :=
  ∃ k : Nat, k ≤ Y.length ∧ i = .int .i64 k ∧ wr.ownsRow w.heap.size 3 1 v (chgL X Y k).length (intVs (chgL X Y k)) ∧ Ext w wr
def ChgPost (F : List Int) (w : World) (e : Ending) (w' : World) : Prop := ∃ v, e = .returned (.tuple #[v, .int .i64 0]) ∧ w'.ownsRow w.heap.size 3 1 v F.length (intVs F) ∧ Ext w w'
section
variable (b : Int) (P : Option Addr) (cap : Nat) (Q : Nat → Option Addr) (C : Nat → Nat) (X : List (List Int)) (P2 : Option Addr) (cap2 : Nat) (Q2 : Nat → Option Addr) (C2 : Nat → Nat) (Y : List (List Int)) (w : World) (h : SlA w P cap Q C X) (h2 : SlA w P2 cap2 Q2 C2 Y)
include h h2
theorem achanged_no (hv : ∀ l ∈ X, ∀ x ∈ l, In64 x) (hv2 : ∀ l ∈ Y, ∀ x ∈ l, In64 x) (hok : ¬ (ArOk b X ∧ ArOk b Y)) : Calls Try.prog 30 #[.int .i64 b, .slice P X.length cap, .slice P2 Y.length cap2] w fun e w' => e = .returned (.tuple #[.slice none 0 0, .int .i64 1]) ∧ Ext w w' := by
  have hV := avalid_any b P cap Q C X w h hv
  have hV2 := fun W hW => avalid_any b P2 cap2 Q2 C2 Y W hW hv2
  by_cases h1 : ArOk b X
  · rw [validF_iff.2 h1] at hV
    rw [validF_no (fun h => hok ⟨h1, h⟩)] at hV2
    clear hok
    go_enter Try.func30, Try.ntmps30
    go_wp2_with (first
      | (go_at_call 15; (with_reducible refine hV.mono ?_); rintro e w1 ⟨rfl, hx1⟩)
      | (go_at_call 15; (with_reducible refine (hV2 _ (by exact h2.ext hx1)).mono ?_); rintro e w2 ⟨rfl, hx2⟩))
    go_ret2
    exact ⟨rfl, hx1.trans hx2⟩
  · rw [validF_no h1] at hV
    clear hok
    go_enter Try.func30, Try.ntmps30
    go_wp2_with (go_at_call 15; (with_reducible refine hV.mono ?_); rintro e w1 ⟨rfl, hx1⟩)
    go_ret2
    exact ⟨rfl, hx1⟩
theorem rchanged_no (hok : ¬ (ArOk b X ∧ ArOk b Y)) : Calls Try.prog 31 #[.int .i64 b, .slice P X.length cap, .slice P2 Y.length cap2] w fun e w' => e = .returned (.tuple #[.slice none 0 0, .int .i64 1]) ∧ Ext w w' := by
  have hV := rvalid_any b P cap Q C X w h
  have hV2 := fun W hW => rvalid_any b P2 cap2 Q2 C2 Y W hW
  by_cases h1 : ArOk b X
  · rw [validF_iff.2 h1] at hV
    rw [validF_no (fun h => hok ⟨h1, h⟩)] at hV2
    clear hok
    go_enter Try.func31, Try.ntmps31
    go_wp2_with (first
      | (go_at_call 19; (with_reducible refine hV.mono ?_); rintro e w1 ⟨rfl, hx1⟩)
      | (go_at_call 19; (with_reducible refine (hV2 _ (by exact h2.ext hx1)).mono ?_); rintro e w2 ⟨rfl, hx2⟩))
    go_ret2
    exact ⟨rfl, hx1.trans hx2⟩
  · rw [validF_no h1] at hV
    clear hok
    go_enter Try.func31, Try.ntmps31
    go_wp2_with (go_at_call 19; (with_reducible refine hV.mono ?_); rintro e w1 ⟨rfl, hx1⟩)
    go_ret2
    exact ⟨rfl, hx1⟩
set_option maxHeartbeats 2000000 in
theorem achanged_yes (hX : ArOk b X) (hY : ArOk b Y) : Calls Try.prog 30 #[.int .i64 b, .slice P X.length cap, .slice P2 Y.length cap2] w (ChgPost (chgL X Y Y.length) w) := by
  have hV := avalid_yes b P cap Q C X w h hX
  have hV2 := fun W hW => avalid_yes b P2 cap2 Q2 C2 Y W hW hY
  have hYl := len_le_flat Y hY.ne
  have hYf := hY.le
  have hlen := h2.len
  clear hX hY
  go_enter Try.func30, Try.ntmps30
  go_wp2_with (first
    | (go_at_call 15; (with_reducible refine hV.mono ?_); rintro e w1 ⟨rfl, hx1⟩)
    | (go_at_call 15; (with_reducible refine (hV2 _ (by exact h2.ext hx1)).mono ?_); rintro e w2 ⟨rfl, hx2⟩))
  go_loopw [23, 8, 9, 10] (fun i v _ _ wr => ChgR X Y w i v wr) (fun i _ _ _ _ => Y.length - (intOf i).toNat)
  case atStart => exact ⟨0, by omega, rfl, World.ownsRow_nil _ _ _ _, hx1.trans hx2⟩
  case round =>
    obtain ⟨k, hk, rfl, hM, hx⟩ := hrel
    clear hx1 hx2 hV hV2
    by_cases hlt : k < Y.length
    · obtain ⟨bb, off, hP, hc⟩ := h2.at_ k hlt
      subst hP
      have c1 : (k : Int) < Y.length := by omega
      obtain ⟨W3, hW3⟩ : ∃ W3, wr.alloc (.cells #[.slice (Q2 k) (nthA Y k).length (C2 k)] 22) = W3 := ⟨_, rfl⟩
      have hx3 : Ext wr W3 := by rw [← hW3]; exact (Ext.refl _).alloc _
      have hb3 : Boxed W3 wr.heap.size 22 (.slice (Q2 k) (nthA Y k).length (C2 k)) := by rw [← hW3]; exact Boxed.new _ _ _
      have hcf := containsFunc_any wr.heap.size P cap Q C X (Q2 k) (C2 k) (nthA Y k) W3 (h.ext (hx.trans hx3)) hb3.cell ((h2.row k hlt).ext (hx.trans hx3))
      unfold Quietly at hcf
      replace hc := hx.cell hc
      have hl := chgL_len X Y k
      have HW3 := Lib.hid hW3
      by_cases hin : nthA Y k ∈ X
      · rw [decide_eq_true hin] at hcf
        have Hs := Lib.hid (chgL_in hin)
        clear hin hb3
        go_wp2_with (go_at_call 53; (try rw [HW3.out]); refine hcf.mono ?_; rintro e w4 ⟨rfl, nq, rfl⟩)
        have hx4 : Ext wr (W3.drewN nq) := hx3.drewN nq
        go_roundw
        case rel => exact ⟨k + 1, by omega, by go_num, by rw [Hs.out]; exact rowExt hM hx4, hx.trans hx4⟩
        case measure => simp [intOf]; omega
      · rw [decide_eq_false hin] at hcf
        have Hs := Lib.hid (chgL_out hin)
        have hrun := fun nq => append_int1 ((W3.drewN nq).alloc (.cells #[.int .i64 k] 3)) w.heap.size u8 (chgL X Y k) k (W3.drewN nq).heap.size (rowExt hM ((hx3.drewN nq).alloc _)) (one_at (World.alloc_heap_new _ _)) (by omega) (by have := hx.size; have := hx3.size; have := (((Ext.refl W3).drewN nq).alloc (.cells #[.int .i64 k] 3)).size; omega)
        have hblk := hM.lt
        clear hin hb3
        go_wp2_with (first
          | (go_at_call 53; (try rw [HW3.out]); refine hcf.mono ?_; rintro e w4 ⟨rfl, nq, rfl⟩; obtain ⟨v', w5, hr5, ho5, hg5⟩ := hrun nq)
          | (at_builtin; refine Lib.wpList_append_run _ rfl _ _ _ _ rfl _ _ rfl rfl _ _ hr5 ?_))
        have hx4 : Ext wr ((W3.drewN nq).alloc (.cells #[.int .i64 k] 3)) := (hx3.drewN nq).alloc _
        have hx5 : Ext w w5 := Below.grown (hx.trans hx4) hg5 (hx.trans hx4).size (fun j hj => (hblk j hj).1)
        go_roundw
        case rel => exact ⟨k + 1, by omega, by go_num, by rw [Hs.out]; exact ho5, hx5⟩
        case measure => simp [intOf]; omega
    · obtain rfl : k = Y.length := by omega
      go_wp2
      go_ret2
      exact ⟨_, rfl, hM, hx⟩
end
end Go.Proofs.Ytiakmcfbkceojaa
