/- PageFills returns true: New and Fill are those of the reference, and what Fill gives is a page with these cells. -/
import Derived.Test.YtfinljcembipkaaLawA
namespace Go.Proofs.Ytfinljcembipkaa
open Go.RowKit
set_option linter.unusedVariables false

theorem fill_ok {size : Int} {n : Nat} {f : Nat → Cel} (h60 : n ≤ 200) (h : (fillRes size n f).2 = 0) :
    ¬ AnyBad f n ∧ sizeB size = true ∧ Fit size.toNat n f ∧ ((size.toNat : Nat) : Int) = size ∧ (fillRes size n f).1 = ⟨(bufF size.toNat n f n).toArray⟩ := by
  by_cases h1 : AnyBad f n
  · simp [fillRes, h1] at h
  · by_cases h2 : sizeB size = false
    · simp [fillRes, h1, h2] at h
    · by_cases h3 : roomF size f n < 0
      · simp [fillRes, h1, h2, h3] at h
      · have hs : sizeB size = true := by simpa using h2
        have hz : 32 ≤ size ∧ size ≤ 4096 := by simp [sizeB] at hs; omega
        have hc : ((size.toNat : Nat) : Int) = size := by omega
        exact ⟨h1, hs, fit_of_good h1 (by omega) (by rw [hc]; exact hs) (by rw [hc]; exact h3), hc, by simp [fillRes, h1, hs, h3]⟩
theorem range_nth (n : Nat) (f : Nat → Cel) : ((List.range n).map f).length = n ∧ ∀ i, i < n → nthC ((List.range n).map f) i = f i := by
  refine ⟨by simp, fun i hi => ?_⟩
  simp [nthC, List.getD_eq_getElem?_getD, hi]

set_option maxHeartbeats 4000000 in
theorem fills_any (size : Int) (A : Option Addr) (cap n : Nat) (f : Nat → Cel) (w : World) (hz0 : -9223372036854775808 ≤ size) (hz1 : size ≤ 9223372036854775807) (hn : n ≤ 140737488355328) (hs : SlC w A n f) (hsz : ∀ i, i < n → (f i).2.size ≤ 140737488355328)
    (hli : ∀ i, i < n → -9223372036854775808 ≤ (f i).1 ∧ (f i).1 ≤ 9223372036854775807) :
    Calls Try.prog 4 #[.int .i64 size, .slice A n cap] w fun e w' => e = .returned (.bool true) ∧ Ext w w' := by
  cases hb : smallB n f with
  | false =>
    go_enter Try.func4, Try.ntmps4
    go_wp2_with (first
      | (go_at_call 13; refine (lawCells_any A cap n f _ hn hs hsz).mono ?_; rintro e w1 ⟨rfl, rfl⟩; rw [hb])
      | (go_at_call 10; refine (awake_any _).mono ?_; rintro e w2 ⟨rfl, hx2⟩))
    go_ret
    exact ⟨rfl, hx2⟩
  | true =>
    have h60 : n ≤ 200 := by simp [smallB] at hb; omega
    have hN := fun W => new_any size W hz0 hz1
    have hR := fun W => refNew_any size W hz0 hz1
    have hF := fun W (h : Ext w W) => fill_any size A cap n f W hz0 hz1 h60 (hs.ext h) hsz hli
    have hG := fun W (h : Ext w W) => refFill_any size A cap n f W hz0 hz1 h60 (hs.ext h) hsz
    have hres : (fillRes size n f).2 = 0 → ValidR (fillRes size n f).1 ∧ usedL (fillRes size n f).1 (twoF (fillRes size n f).1 0) = (List.range n).map f := fun h => by
      obtain ⟨h1, h2, h3, h4, h5⟩ := fill_ok h60 h
      obtain ⟨_, b, c⟩ := built_page size.toNat n f h1 h3 (by rw [h4]; exact h2) _ h5
      exact ⟨b, c⟩
    generalize (fillRes size 0 fun _ => (0, ⟨#[]⟩)).1 = P0 at *
    generalize (fillRes size 0 fun _ => (0, ⟨#[]⟩)).2 = e0 at *
    generalize (fillRes size n f).1 = P at *
    generalize (fillRes size n f).2 = e1 at *
    have ne1 : ∀ s : ByteArray, (s.toList != s.toList) = false := fun s => by simp
    by_cases h0 : e1 = 0
    · subst h0
      obtain ⟨hv, hu⟩ := hres rfl
      obtain ⟨r1, r2⟩ := range_nth n f
      go_enter Try.func4, Try.ntmps4
      go_wp2_with (first
        | (go_at_call 13; refine (lawCells_any A cap n f _ hn hs hsz).mono ?_; rintro e w1 ⟨rfl, rfl⟩; rw [hb])
        | (go_at_call 14; refine (hN _).mono ?_; rintro e w1 ⟨rfl, hx1⟩)
        | (go_at_call 15; refine (hR _).mono ?_; rintro e w2 ⟨rfl, hx2⟩; have hx2' := Ext.trans hx1 hx2)
        | (go_at_call 16; refine (hF _ (by exact hx2')).mono ?_; rintro e w3 ⟨rfl, hx3⟩; have hx3' := Ext.trans hx2' hx3)
        | (go_at_call 17; refine (hG _ (by exact hx3')).mono ?_; rintro e w4 ⟨rfl, hx4⟩; have hx4' := Ext.trans hx3' hx4)
        | (go_at_call 11; refine (Cells_ok P _ hv).mono ?_; rintro e w5 ⟨B, cb, rfl, hs5, hx5⟩; rw [hu, r1] at hs5; rw [hu, r1]; have hx5' := Ext.trans hx4' hx5)
        | (go_at_call 12; refine (same_yes A B cap cb n f _ _ hn (hs.ext (by exact hx5')) hs5 (fun i hi => (r2 i hi).symm)).mono ?_; rintro e w6 ⟨rfl, hx6⟩; have hx6' := Ext.trans hx5' hx6)
        | (go_at_call 10; refine (awake_any _).mono ?_; rintro e w7 ⟨rfl, hx7⟩))
      go_ret
      exact ⟨rfl, hx6'.trans hx7⟩
    · have h00 : (e1 == 0) = false := by simpa using h0
      go_enter Try.func4, Try.ntmps4
      go_wp2_with (first
        | (go_at_call 13; refine (lawCells_any A cap n f _ hn hs hsz).mono ?_; rintro e w1 ⟨rfl, rfl⟩; rw [hb])
        | (go_at_call 14; refine (hN _).mono ?_; rintro e w1 ⟨rfl, hx1⟩)
        | (go_at_call 15; refine (hR _).mono ?_; rintro e w2 ⟨rfl, hx2⟩; have hx2' := Ext.trans hx1 hx2)
        | (go_at_call 16; refine (hF _ (by exact hx2')).mono ?_; rintro e w3 ⟨rfl, hx3⟩; have hx3' := Ext.trans hx2' hx3)
        | (go_at_call 17; refine (hG _ (by exact hx3')).mono ?_; rintro e w4 ⟨rfl, hx4⟩; have hx4' := Ext.trans hx3' hx4)
        | (go_at_call 10; refine (awake_any _).mono ?_; rintro e w7 ⟨rfl, hx7⟩))
      go_ret
      exact ⟨rfl, hx4'.trans hx7⟩
end Go.Proofs.Ytfinljcembipkaa
