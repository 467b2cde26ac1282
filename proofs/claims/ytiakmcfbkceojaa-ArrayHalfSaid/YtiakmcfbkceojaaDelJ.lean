/- slices.Delete of one, at elements of one cell: 24. -/
import Derived.Test.YtiakmcfbkceojaaArR2
import Derived.Deep.RegionLaw
namespace Go.Proofs.Ytiakmcfbkceojaa
open Go.RowKit
set_option linter.unusedVariables false
set_option maxRecDepth 20000

theorem headJ {w : World} {base : Nat} {g n cap : Nat} {xs : List Value} (h : w.ownsRow base 22 1 (.slice (some ⟨g, 0, none⟩) n cap) n xs) (i : Nat) (hi : i ≤ n) :
    w.ownsRow base 22 1 (.slice (some ⟨g, 0, none⟩) i cap) i (xs.take i) := by
  refine ⟨by rw [List.length_take, h.1]; omega, ?_⟩
  rcases h.2 with ⟨h', _⟩ | ⟨g', cap', cur, h', hb, hg, hnc, hcm, hcs, htake⟩
  · simp at h'
  · simp only [Value.slice.injEq, Option.some.injEq, Addr.mk.injEq, and_true, true_and] at h'
    obtain ⟨rfl, rfl⟩ := h'
    refine .inr ⟨g, cap, cur, rfl, hb, hg, by omega, hcm, hcs, ?_⟩
    rw [← htake, List.take_take]
    congr 1
    omega
theorem spareJ {w : World} {base : Nat} {e : TypeId} {g n cap : Nat} {xs : List Value} (h : w.ownsRow base e 1 (.slice (some ⟨g, 0, none⟩) n cap) n xs) (j : Nat) (hj : j < cap) : (w.cell? ⟨g, j, none⟩).isSome = true := by
  rcases h.2 with ⟨h', _⟩ | ⟨g', cap', cur, h', hb, hg, hnc, hcm, hcs, htake⟩
  · simp at h'
  · simp only [Value.slice.injEq, Option.some.injEq, Addr.mk.injEq, and_true, true_and] at h'
    obtain ⟨rfl, rfl⟩ := h'
    rw [cell_of_row w g j cur e (0, 0) hg]
    simp [hcs, hj]
theorem clearJ (g o c : Nat) (w : World) (x : Value) (h1 : w.cell? ⟨g, o, none⟩ = some x) (f1 : w.frozen? ⟨g, o, none⟩ = false) :
    (Builtin.clear_ #[24] 0 #[.slice (some ⟨g, o, none⟩) 1 c]).run Try.prog w = .ok (.tuple #[]) (w.setCell ⟨g, o, none⟩ (.slice none 0 0)) := by
  unfold Builtin.clear_
  go_simp
  have e : (Builtin.zeroCells #[.slice none 0 0] 1).toList = [.slice none 0 0] := by simp [Builtin.zeroCells, Array.range]
  rw [e]
  go_simp

set_option maxHeartbeats 1000000 in
theorem deleteJ (L : List Value) (g cap base : Nat) (i : Nat) (w : World) (hL : L.length ≤ 10000) (h1 : ∀ v ∈ L, v.oneCell' = true) (hi : i < L.length) (hown : w.ownsRow base 22 1 (.slice (some ⟨g, 0, none⟩) L.length cap) L.length L) :
    Calls Try.prog 69 #[.slice (some ⟨g, 0, none⟩) L.length cap, .int .i64 i, .int .i64 (i + 1)] w fun e w' =>
      e = .returned (.slice (some ⟨g, 0, none⟩) (L.length - 1) cap) ∧ w'.ownsRow base 22 1 (.slice (some ⟨g, 0, none⟩) (L.length - 1) cap) (L.length - 1) (L.eraseIdx i) ∧ Upd w g w' := by
  have hnc : L.length ≤ cap := by
    rcases hown.2 with ⟨h', _⟩ | ⟨g', cap', cur, h', hb, hg, hnc, _⟩
    · simp at h'
    · simp only [Value.slice.injEq, Option.some.injEq, Addr.mk.injEq, and_true, true_and] at h'
      omega
  have hcap : cap ≤ 9223372036854775807 := by
    rcases hown.2 with ⟨h', _⟩ | ⟨g', cap', cur, h', hb, hg, _, hm, _⟩
    · simp at h'
    · simp only [Value.slice.injEq, Option.some.injEq, Addr.mk.injEq, and_true, true_and] at h'
      simp only [maxLen] at hm
      omega
  have q1 : (i : Int) + 1 ≤ L.length := by omega
  have q2 : (i : Int) ≤ cap := by omega
  have q3 : (L.length : Int) ≤ cap := by omega
  have q4 : ((i : Int) + 1).toNat = i + 1 := by omega
  have q5 : (0 : Int) ≤ (i : Int) + 1 := by omega
  have q6 : (i : Int) ≤ (i : Int) + 1 := by omega
  have q7 : ¬ (i : Int) = (i : Int) + 1 := by omega
  have hh := headJ (w := w.drew) (n := L.length) (rowExt hown ((Ext.refl w).drew)) i (by omega)
  have hdrop : (L.drop (i + 1)).length = (L.length - (i + 1)) * 1 := by rw [List.length_drop, Nat.mul_one]
  have hrun : ∃ w1, (Builtin.append_ #[24, 24] 24 #[.slice (some ⟨g, 0, none⟩) i cap, .slice (if cap = i + 1 then some ⟨g, 0, none⟩ else some ⟨g, i + 1, none⟩) (L.length - (i + 1)) (cap - (i + 1))]).run Try.prog w.drew = .ok (.slice (some ⟨g, 0, none⟩) (i + (L.length - (i + 1))) cap) w1 ∧
      w1.ownsRow base 22 1 (.slice (some ⟨g, 0, none⟩) (i + (L.length - (i + 1))) cap) (i + (L.length - (i + 1))) (L.take i ++ L.drop (i + 1)) ∧ w.drew.grownBy w1 (some g) := by
    obtain ⟨i0, hi0, hz0, hz1, hz2⟩ := info_parts infoJ
    have hone : ∀ u ∈ L.drop (i + 1), u.oneCell' = true := fun u hu => h1 u (List.mem_of_mem_drop hu)
    by_cases hc : cap = i + 1
    · rw [if_pos hc]
      have e0 : L.length - (i + 1) = 0 := by omega
      have e1 : L.drop (i + 1) = [] := by rw [← List.length_eq_zero_iff, hdrop, e0]
      refine run_append_fits (P := Try.prog) _ base _ _ 22 i0 1 Try.underlying24 hi0 hz1 g i cap _ hh ⟨g, 0, none⟩ _ _ _ hdrop (fun j u hj => ?_) hone (by omega)
      rw [e1] at hj
      simp at hj
    · rw [if_neg hc]
      refine run_append_fits (P := Try.prog) _ base _ _ 22 i0 1 Try.underlying24 hi0 hz1 g i cap _ hh ⟨g, i + 1, none⟩ _ _ _ hdrop (fun j u hj => ?_) hone (by omega)
      rw [List.getElem?_drop] at hj
      have hjl : i + 1 + j < L.length := (List.getElem?_eq_some_iff.1 hj).1
      have := hown.cellAt (i + 1 + j) (by omega)
      rw [Go.WideShapes.add_plain]
      exact this.trans hj
  obtain ⟨w1, hrun, hown1, hgr⟩ := hrun
  have hk : ∃ k, k + 1 = L.length := ⟨L.length - 1, by omega⟩
  obtain ⟨k, hk⟩ := hk
  have ek : i + (L.length - (i + 1)) = k := by omega
  rw [ek] at hrun hown1
  rw [← List.eraseIdx_eq_take_drop_succ] at hown1
  have hu1 : Upd w g w1 := (Upd.refl w g).drew.trans hgr
  have s1 := spareJ hown1 k (by omega)
  have f1 : w1.frozen? ⟨g, k, none⟩ = false := hown1.frozenAt _
  obtain ⟨x, s1⟩ := Option.isSome_iff_exists.1 s1
  have hclr := clearJ g k (cap - k) w1 x s1 f1
  have hout : (w1.setCell ⟨g, k, none⟩ (.slice none 0 0)).ownsRow base 22 1 (.slice (some ⟨g, 0, none⟩) k cap) k (L.eraseIdx i) := by
    have e1 := (hown1.stored k (.slice none 0 0)).1
    have hl := hown1.1
    rwa [List.set_eq_of_length_le (by omega)] at e1
  have q8 : (k : Int) ≤ L.length := by omega
  have q9 : ((L.length : Int)).toNat = L.length := rfl
  have q10 : L.length - k = 1 := by omega
  have q11 : ¬ cap = k := by omega
  have q12 : L.length - 1 = k := by omega
  rw [q12]
  generalize hn : L.length = n at *
  go_enter Try.func69, Try.ntmps69
  go_wp2
  go_region_law (refine wp_append_at (.tmp 22) (.tmp 25) 24 rfl (.slice (some ⟨g, 0, none⟩) i cap) (.slice (if cap = i + 1 then some ⟨g, 0, none⟩ else some ⟨g, i + 1, none⟩) (n - (i + 1)) (cap - (i + 1))) rfl rfl hrun ?_)
  go_wp2
  all_goals (
    go_ret
    refine ⟨rfl, ?_, ?_⟩
    · first
        | exact hout
        | (rw [show i + 1 = cap from by omega]; exact hout)
    · exact hu1.trans (Upd.setCell _ _ _ _))
end Go.Proofs.Ytiakmcfbkceojaa
