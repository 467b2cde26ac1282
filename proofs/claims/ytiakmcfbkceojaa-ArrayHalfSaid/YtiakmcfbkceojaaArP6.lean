/- Arrays: Changed of the reference. -/
import Derived.Test.YtiakmcfbkceojaaArP5
namespace Go.Proofs.Ytiakmcfbkceojaa
open Go.RowKit Go.Maps
set_option linter.unusedVariables false
set_option linter.unusedSimpArgs false
set_option maxRecDepth 20000
attribute [local go_sem] Oper.semAt_some

theorem mem_take_succ {X : List (List Int)} {k : Nat} (h : k < X.length) (y : List Int) : y ∈ X.take (k + 1) ↔ y ∈ X.take k ∨ y = nthA X k := by
  rw [nthA_take h]; simp
/-- the search among the first blocks of X -/
def FndR (X : List (List Int)) (y : List Int) (w : World) (k f : Value) (wr : World) : Prop :=
  ∃ (j : Nat) (t : Bool) (n : Nat), j ≤ X.length ∧ k = .int .i64 j ∧ f = .bool t ∧ Hid (t = decide (y ∈ X.take j)) ∧ wr = w.drewN n
set_option maxHeartbeats 4000000 in
theorem rchanged_yes (b : Int) (P : Option Addr) (cap : Nat) (Q : Nat → Option Addr) (C : Nat → Nat) (X : List (List Int)) (P2 : Option Addr) (cap2 : Nat) (Q2 : Nat → Option Addr) (C2 : Nat → Nat) (Y : List (List Int)) (w : World) (h : SlA w P cap Q C X) (h2 : SlA w P2 cap2 Q2 C2 Y) (hX : ArOk b X) (hY : ArOk b Y) :
    Calls Try.prog 31 #[.int .i64 b, .slice P X.length cap, .slice P2 Y.length cap2] w (ChgPost (chgL X Y Y.length) w) := by
  have hV := rvalid_any b P cap Q C X w h
  have hV2 := fun W hW => rvalid_any b P2 cap2 Q2 C2 Y W hW
  rw [validF_iff.2 hX] at hV
  rw [validF_iff.2 hY] at hV2
  have hYl := len_le_flat Y hY.ne
  have hYf := hY.le
  have hlen := h2.len
  have hlenX := h.len
  clear hX hY
  go_enter Try.func31, Try.ntmps31
  go_wp2_with (first
    | (go_at_call 19; (with_reducible refine hV.mono ?_); rintro e w1 ⟨rfl, hx1⟩)
    | (go_at_call 19; (with_reducible refine (hV2 _ (by exact h2.ext hx1)).mono ?_); rintro e w2 ⟨rfl, hx2⟩))
  go_loopw [9, 8, 10, 11] (fun i v _ _ wr => ChgR X Y w i v wr) (fun i _ _ _ _ => Y.length - (intOf i).toNat)
  case atStart => exact ⟨0, by omega, rfl, World.ownsRow_nil _ _ _ _, hx1.trans hx2⟩
  case round =>
    obtain ⟨k, hk, rfl, hM, hx⟩ := hrel
    clear hx1 hx2 hV hV2
    by_cases hlt : k < Y.length
    · obtain ⟨bb, off, hP, hc⟩ := h2.at_ k hlt
      subst hP
      have c1 : (k : Int) < Y.length := by omega
      replace hc := hx.cell hc
      have hl := chgL_len X Y k
      have hin := fun hh : nthA Y k ∈ X => Lib.hid (chgL_in (k := k) hh)
      have hout := fun hh : nthA Y k ∉ X => Lib.hid (chgL_out (k := k) hh)
      have hrow2 := (h2.row k hlt).ext hx
      obtain ⟨y, hy⟩ : ∃ y, nthA Y k = y := ⟨_, rfl⟩
      rw [hy] at hc hin hout hrow2
      clear hy
      have hX2 := h.ext hx
      obtain ⟨wo, hwo⟩ : ∃ wo : World, wo = wr := ⟨_, rfl⟩
      subst hwo
      go_wp2
      go_loopw [11, 10] (fun j f wq => FndR X y wo j f wq) (fun j _ _ => X.length - (intOf j).toNat)
      case atStart => exact ⟨0, false, 0, by omega, rfl, rfl, Lib.hid (by simp), by rw [World.drewN_zero]⟩
      case round =>
        obtain ⟨j, t, n, hj, rfl, rfl, ht, rfl⟩ := hrel
        by_cases hjl : j < X.length
        · obtain ⟨b3, o3, hP3, g3⟩ := hX2.at_ j hjl
          subst hP3
          have hr3 := hX2.row j hjl
          have c3 : (j : Int) < X.length := by omega
          have hS := fun q => sameInts_any _ _ _ _ _ _ (wo.drewN q) (hr3.ext ((Ext.refl wo).drewN q)) (hrow2.ext ((Ext.refl wo).drewN q))
          have Hms := Lib.hid (mem_take_succ hjl y)
          cases t with
          | true =>
            have Hn : Hid (true = decide (y ∈ X.take (j + 1))) := Lib.hid (by
              rw [decide_eq_true]
              exact Hms.out.2 (.inl (by simpa using ht.out.symm)))
            clear hS
            go_wp2
            go_quiet (fail)
            go_wp2
            go_roundw
            case rel => exact ⟨j + 1, true, _, by omega, by go_num, rfl, Hn, rfl⟩
            case measure => simp [intOf]; omega
          | false =>
            have hno : y ∉ X.take j := by simpa using ht.out.symm
            by_cases he : nthA X j = y
            · rw [decide_eq_true he] at hS
              have Hn : Hid (true = decide (y ∈ X.take (j + 1))) := Lib.hid (by
                rw [decide_eq_true]
                exact Hms.out.2 (.inr he.symm))
              clear he hno
              go_wp2
              go_quiet ((go_at_call 14; exact quiet_add_n (hS _)))
              go_wp2
              go_roundw
              case rel => exact ⟨j + 1, true, _, by omega, by go_num, rfl, Hn, rfl⟩
              case measure => simp [intOf]; omega
            · rw [decide_eq_false he] at hS
              have Hn : Hid (false = decide (y ∈ X.take (j + 1))) := Lib.hid (by
                rw [decide_eq_false]
                intro hm
                rcases Hms.out.1 hm with h | h
                · exact hno h
                · exact he h.symm)
              clear he hno
              go_wp2
              go_quiet ((go_at_call 14; exact quiet_add_n (hS _)))
              go_wp2
              go_roundw
              case rel => exact ⟨j + 1, false, _, by omega, by go_num, rfl, Hn, rfl⟩
              case measure => simp [intOf]; omega
        · obtain rfl : j = X.length := by omega
          have htt := ht.out
          rw [List.take_length] at htt
          have hx4 : Ext wo (wo.drewN n) := (Ext.refl wo).drewN n
          cases t with
          | true =>
            have Hs := hin (by simpa using htt.symm)
            clear htt ht hin hout
            go_wp2
            go_roundw
            case rel => exact ⟨k + 1, by omega, by go_num, by rw [Hs.out]; exact rowExt hM hx4, hx.trans hx4⟩
            case measure => simp [intOf]; omega
          | false =>
            have Hs := hout (by simpa using htt.symm)
            have hblk := hM.lt
            obtain ⟨v', w5, hr5, ho5, hg5⟩ := append_int1 ((wo.drewN n).alloc (.cells #[.int .i64 k] 3)) w.heap.size u8 (chgL X Y k) k (wo.drewN n).heap.size (rowExt hM (hx4.alloc _)) (one_at (World.alloc_heap_new _ _)) (by omega) (by have := hx.size; have := (((Ext.refl wo).drewN n).alloc (.cells #[.int .i64 k] 3)).size; omega)
            clear htt ht hin hout
            go_wp2_with (at_builtin; refine Lib.wpList_append_run _ rfl _ _ _ _ rfl _ _ rfl rfl _ _ hr5 ?_)
            have hx5 : Ext w w5 := Below.grown (hx.trans (hx4.alloc _)) hg5 (hx.trans (hx4.alloc _)).size (fun j hj => (hblk j hj).1)
            go_roundw
            case rel => exact ⟨k + 1, by omega, by go_num, by rw [Hs.out]; exact ho5, hx5⟩
            case measure => simp [intOf]; omega
    · obtain rfl : k = Y.length := by omega
      go_wp2
      go_ret2
      exact ⟨_, rfl, hM, hx⟩
end Go.Proofs.Ytiakmcfbkceojaa
