/- Areas: agree. -/
import Derived.Test.YtnileonlabpbpaaSpK
namespace Go.Proofs.Ytnileonlabpbpaa
open Go.RowKit
set_option linter.unusedVariables false
set_option maxRecDepth 20000
set_option maxRecDepth 20000

theorem nthL_is {w : World} {A g size cap : Nat} {l : List ByteArray} {lv : List UInt8} (h : Sp w A g size l lv cap) (k : Nat) (hk : k < l.length) : (nthL lv k).toNat = levP size (nthB l k) := by
  obtain ⟨hv, hz⟩ := h.good k hk
  have h8 : levP size (nthB l k) ≤ 8 := by rw [← hz]; exact levP_le hv
  rw [h.lev k hk]
  simp
  omega
theorem pageK (A g size cap : Nat) (l : List ByteArray) (lv : List UInt8) (k : Nat) (w : World) (h : Sp w A g size l lv cap) (hk : k < l.length) :
    Calls Try.prog 26 #[.pointer (some ⟨A, 0, none⟩), .int .i64 k] w fun e w' => e = .returned (.tuple #[.string (nthB l k), .int .i64 0]) ∧ w = w' := by
  have hle := h.le
  have := page_is A lv size (some ⟨g, 0, none⟩) l.length cap l k w h.ar h.sls rfl (by omega)
  rw [if_pos ⟨by omega, by omega⟩] at this
  simpa using this
theorem levelK (A g size cap : Nat) (l : List ByteArray) (lv : List UInt8) (k : Nat) (w : World) (h : Sp w A g size l lv cap) (hk : k < l.length) :
    Calls Try.prog 27 #[.pointer (some ⟨A, 0, none⟩), .int .i64 k] w fun e w' => e = .returned (.tuple #[.int .i64 (levP size (nthB l k)), .int .i64 0]) ∧ w = w' := by
  have hle := h.le
  have := level_is A lv size (some ⟨g, 0, none⟩) l.length cap k w h.ar hle
  rw [if_pos ⟨by omega, by omega⟩, Int.toNat_natCast, nthL_is h k hk] at this
  exact this
set_option maxHeartbeats 2000000 in
theorem agree_yes (A g size cap : Nat) (l : List ByteArray) (lv : List UInt8) (P : Option Addr) (capR : Nat) (w : World) (h : Sp w A g size l lv cap) (hr : RAr w P size l) :
    Calls Try.prog 7 #[.pointer (some ⟨A, 0, none⟩), .agg #[.int .i64 size, .slice P l.length capR]] w fun e w' => e = .returned (.bool true) ∧ Ext w w' := by
  have hle := h.le
  have hx0 := (Ext.refl w).alloc (.cells #[.int .i64 size, .slice P l.length capR] 29)
  have hB := RCell.new w (.int .i64 size) (.slice P l.length capR)
  have hS := fun W hW => size_is A lv size (.slice (some ⟨g, 0, none⟩) l.length cap) W hW
  have hP := fun W hW => pages_is A lv size (some ⟨g, 0, none⟩) l.length cap W hW
  have hF := fun W hW => sfree_any A g size cap l lv W hW
  have hG := fun W hW => refFree7 P size capR l W hW
  have hb := sumRoom_le l (fun i hi => (h.good i hi).1) l.length (Nat.le_refl _)
  generalize sumRoom l l.length = sm at *
  go_enter Try.func7, Try.ntmps7
  go_wp2
  have h0 := h.ext hx0
  have hr0 := hr.ext hx0
  clear h hr
  generalize w.alloc (.cells #[.int .i64 size, .slice P l.length capR] 29) = W0 at *
  generalize w.heap.size = B at *
  obtain ⟨b0, b1, g0, g1⟩ := hB.cells
  go_region_with (first
    | (go_at_call 22; refine (hS _ (by exact h0.ar.ext (Ext.drew (Ext.refl _)))).mono ?_; rintro e w1 ⟨rfl, rfl⟩)
    | (go_at_call 23; refine (hP _ (by exact h0.ar.ext (Ext.drew (Ext.refl _)))).mono ?_; rintro e w1 ⟨rfl, rfl⟩)
    | (go_at_call 24; refine (hF _ (by exact h0.ext (Ext.drew (Ext.refl _)))).mono ?_; rintro e w4 ⟨rfl, hx4⟩; obtain ⟨d0, d1, _, _⟩ := (hB.ext ((Ext.drew (Ext.refl _)).trans hx4)).cells)
    | (go_at_call 25; refine (hG _ (hr0.ext ((Ext.drew (Ext.refl _)).trans hx4))).mono ?_; rintro e w5 ⟨rfl, hx5⟩))
  all_goals (
    have hx5' := (Ext.drew (Ext.refl W0)).trans (hx4.trans hx5)
    have h5 := h0.ext hx5'
    have hr5 := hr0.ext hx5'
    have hB5 := hB.ext hx5'
    replace hx0 := hx0.trans hx5'
    clear hx5 hx4 hx5' hB h0 hr0
    go_wp2
    go_loopw [5] (fun i wr => ∃ k : Nat, k ≤ l.length ∧ i = .int .i64 k ∧ Ext w5 wr) (fun i _ => l.length - (intOf i).toNat)
    case atStart => exact ⟨0, by omega, rfl, Ext.refl _⟩
    case round =>
      obtain ⟨k, hk, rfl, hx⟩ := hrel
      have h6 := h5.ext hx
      have hr6 := hr5.ext hx
      have hB6 := hB5.ext hx
      have hx6 := hx0.trans hx
      clear h5 hr5 hB5
      obtain ⟨b0, b1, g0, g1⟩ := hB6.cells
      by_cases hlt : k < l.length
      · obtain ⟨b, off, rfl, hc⟩ := hr6.sls.at_ k hlt
        have hLk := nthL_is h6 k hlt
        have hPg := pageK A g size cap l lv k _ h6 hlt
        have hLv := levelK A g size cap l lv k _ h6 hlt
        have hRL := refLevel7 (some ⟨b, off, none⟩) size capR l k _ hr6 hlt
        have c9 : (k : Int) < l.length := by omega
        generalize levP size (nthB l k) = m at *
        generalize nthB l k = p at *
        go_wp2_with (first
          | (go_at_call 26; refine hPg.mono ?_; rintro e w7 ⟨rfl, rfl⟩)
          | (go_at_call 27; refine hLv.mono ?_; rintro e w7 ⟨rfl, rfl⟩)
          | (go_at_call 21; refine hRL.mono ?_; rintro e w8 ⟨rfl, hx8⟩; have q1 := hx8.cell b1; have q2 := hx8.cell hc))
        go_roundw
        case rel => exact ⟨k + 1, by omega, by go_num, hx.trans hx8⟩
        case measure => simp [intOf]; omega
      · obtain rfl : k = l.length := by omega
        go_wp2
        go_ret
        exact ⟨rfl, hx6⟩)
end Go.Proofs.Ytnileonlabpbpaa
