/- slices.Delete of one cell. -/
import Derived.Test.YtfinljcembipkaaBackA
import Derived.Deep.RegionLaw
namespace Go.Proofs.Ytfinljcembipkaa
open Go.RowKit
set_option linter.unusedVariables false

theorem ownsRow_head {w : World} {base : Nat} {g n cap : Nat} {xs : List Value} (h : w.ownsRow base 45 2 (.slice (some ⟨g, 0, none⟩) n cap) n xs) (i : Nat) (hi : i ≤ n) :
    w.ownsRow base 45 2 (.slice (some ⟨g, 0, none⟩) i cap) i (xs.take (i * 2)) := by
  refine ⟨by rw [List.length_take, h.1]; omega, ?_⟩
  rcases h.2 with ⟨h', _⟩ | ⟨g', cap', cur, h', hb, hg, hnc, hcm, hcs, htake⟩
  · simp at h'
  · simp only [Value.slice.injEq, Option.some.injEq, Addr.mk.injEq, and_true, true_and] at h'
    obtain ⟨rfl, rfl⟩ := h'
    refine .inr ⟨g, cap, cur, rfl, hb, hg, by omega, hcm, hcs, ?_⟩
    rw [← htake, List.take_take]
    congr 1
    omega
theorem flatC_take (l : List Cel) (i : Nat) : (flatC l).take (i * 2) = flatC (l.take i) := by
  induction l generalizing i with
  | nil => simp [flatC]
  | cons c l ih =>
    cases i with
    | zero => simp [flatC]
    | succ i =>
      have e : (i + 1) * 2 = i * 2 + 1 + 1 := by omega
      have h := ih i
      simp only [flatC, List.flatMap_cons, List.cons_append, List.nil_append, List.take_succ_cons, e] at h ⊢
      rw [h]
theorem flatC_drop (l : List Cel) (i : Nat) : (flatC l).drop (i * 2) = flatC (l.drop i) := by
  induction l generalizing i with
  | nil => simp [flatC]
  | cons c l ih =>
    cases i with
    | zero => simp
    | succ i =>
      have e : (i + 1) * 2 = i * 2 + 1 + 1 := by omega
      have h := ih i
      simp only [flatC, List.flatMap_cons, List.cons_append, List.nil_append, List.drop_succ_cons, e] at h ⊢
      rw [h]

/-- a cell of an owned row's block, filled or spare -/
theorem spare_some {w : World} {base : Nat} {e : TypeId} {size g n cap : Nat} {xs : List Value} (h : w.ownsRow base e size (.slice (some ⟨g, 0, none⟩) n cap) n xs) (j : Nat) (hj : j < cap * size) : (w.cell? ⟨g, j, none⟩).isSome = true := by
  rcases h.2 with ⟨h', _⟩ | ⟨g', cap', cur, h', hb, hg, hnc, hcm, hcs, htake⟩
  · simp at h'
  · simp only [Value.slice.injEq, Option.some.injEq, Addr.mk.injEq, and_true, true_and] at h'
    obtain ⟨rfl, rfl⟩ := h'
    rw [cell_of_row w g j cur e (0, 0) hg]
    simp [hcs, hj]
theorem clear_one (g o c : Nat) (w : World) (x y : Value) (h1 : w.cell? ⟨g, o, none⟩ = some x) (h2 : w.cell? ⟨g, o + 1, none⟩ = some y) (f1 : w.frozen? ⟨g, o, none⟩ = false) (f2 : w.frozen? ⟨g, o + 1, none⟩ = false) :
    (Builtin.clear_ #[22] 0 #[.slice (some ⟨g, o, none⟩) 1 c]).run Try.prog w = .ok (.tuple #[]) ((w.setCell ⟨g, o, none⟩ (.int .i64 0)).setCell ⟨g, o + 1, none⟩ (.string ⟨#[]⟩)) := by
  unfold Builtin.clear_
  go_simp
  have e : (Builtin.zeroCells #[Value.int IntKind.i64 0, Value.string { data := #[] }] 1).toList = [.int .i64 0, .string ⟨#[]⟩] := by simp [Builtin.zeroCells, Array.range]
  rw [e]
  have n1 : (⟨g, o, none⟩ : Addr) ≠ ⟨g, o + 1, none⟩ := fun h => by have := congrArg Addr.off h; simp at this
  have g2 : (w.setCell ⟨g, o, none⟩ (.int .i64 0)).cell? ⟨g, o + 1, none⟩ = some y := by rw [World.cell?_setCell_other _ _ _ _ n1]; exact h2
  have g3 : (w.setCell ⟨g, o, none⟩ (.int .i64 0)).frozen? ⟨g, o + 1, none⟩ = false := by rw [World.frozen?_setCell]; exact f2
  go_simp

set_option maxHeartbeats 1000000 in
theorem delete_any (L : List Cel) (g cap base : Nat) (i : Nat) (w : World) (hL : L.length ≤ 200) (hi : i < L.length) (hown : w.ownsRow base 45 2 (.slice (some ⟨g, 0, none⟩) L.length cap) L.length (flatC L)) :
    Calls Try.prog 64 #[.slice (some ⟨g, 0, none⟩) L.length cap, .int .i64 i, .int .i64 (i + 1)] w fun e w' =>
      e = .returned (.slice (some ⟨g, 0, none⟩) (L.length - 1) cap) ∧ w'.ownsRow base 45 2 (.slice (some ⟨g, 0, none⟩) (L.length - 1) cap) (L.length - 1) (flatC (L.eraseIdx i)) ∧ Upd w g w' := by
  have hnc : L.length ≤ cap := by
    rcases hown.2 with ⟨h', _⟩ | ⟨g', cap', cur, h', hb, hg, hnc, _⟩
    · simp at h'
    · simp only [Value.slice.injEq, Option.some.injEq, Addr.mk.injEq, and_true, true_and] at h'
      omega
  have hcap : cap ≤ 9223372036854775807 := by
    rcases hown.2 with ⟨h', _⟩ | ⟨g', cap', cur, h', hb, hg, _, hm, _⟩
    · simp at h'
    · simp only [Value.slice.injEq, Option.some.injEq, Addr.mk.injEq, and_true, true_and] at h'
      simp only [maxLen] at hm
      omega
  have q1 : (i : Int) + 1 ≤ L.length := by omega
  have q2 : (i : Int) ≤ cap := by omega
  have q3 : (L.length : Int) ≤ cap := by omega
  have q4 : ((i : Int) + 1).toNat = i + 1 := by omega
  have q5 : (0 : Int) ≤ (i : Int) + 1 := by omega
  have q6 : (i : Int) ≤ (i : Int) + 1 := by omega
  have q7 : ¬ (i : Int) = (i : Int) + 1 := by omega
  have hh := ownsRow_head (w := w.drew) (n := L.length) (ownsRow_ext hown ((Ext.refl w).drew)) i (by omega)
  have hdrop : ((flatC L).drop ((i + 1) * 2)).length = (L.length - (i + 1)) * 2 := by rw [flatC_drop, flatC_length, List.length_drop]
  have hrun : ∃ w1, (Builtin.append_ #[22, 22] 22 #[.slice (some ⟨g, 0, none⟩) i cap, .slice (if cap = i + 1 then some ⟨g, 0, none⟩ else some ⟨g, (i + 1) * 2, none⟩) (L.length - (i + 1)) (cap - (i + 1))]).run Try.prog w.drew = .ok (.slice (some ⟨g, 0, none⟩) (i + (L.length - (i + 1))) cap) w1 ∧
      w1.ownsRow base 45 2 (.slice (some ⟨g, 0, none⟩) (i + (L.length - (i + 1))) cap) (i + (L.length - (i + 1))) ((flatC L).take (i * 2) ++ (flatC L).drop ((i + 1) * 2)) ∧ w.drew.grownBy w1 (some g) := by
    obtain ⟨i0, hi0, hz0, hz1, hz2⟩ := info_parts Try.infoC
    have hone : ∀ u ∈ (flatC L).drop ((i + 1) * 2), u.oneCell' = true := fun u hu => by
      have := List.mem_of_mem_drop hu
      simp only [flatC, List.mem_flatMap] at this
      obtain ⟨c, _, hc⟩ := this
      simp at hc
      rcases hc with rfl | rfl <;> rfl
    by_cases hc : cap = i + 1
    · rw [if_pos hc]
      have e0 : L.length - (i + 1) = 0 := by omega
      have e1 : (flatC L).drop ((i + 1) * 2) = [] := by rw [← List.length_eq_zero_iff, hdrop, e0]
      refine run_append_fits (P := Try.prog) _ base _ _ 45 i0 2 Try.underlying22 hi0 hz1 g i cap _ hh ⟨g, 0, none⟩ _ _ _ hdrop (fun j u hj => ?_) hone (by omega)
      rw [e1] at hj
      simp at hj
    · rw [if_neg hc]
      refine run_append_fits (P := Try.prog) _ base _ _ 45 i0 2 Try.underlying22 hi0 hz1 g i cap _ hh ⟨g, (i + 1) * 2, none⟩ _ _ _ hdrop (fun j u hj => ?_) hone (by omega)
      rw [List.getElem?_drop] at hj
      have hjl : (i + 1) * 2 + j < (flatC L).length := (List.getElem?_eq_some_iff.1 hj).1
      rw [flatC_length] at hjl
      have := hown.cellAt ((i + 1) * 2 + j) hjl
      rw [Go.WideShapes.add_plain]
      exact this.trans hj
  obtain ⟨w1, hrun, hown1, hgr⟩ := hrun
  have hk : ∃ k, k + 1 = L.length := ⟨L.length - 1, by omega⟩
  obtain ⟨k, hk⟩ := hk
  have ek : i + (L.length - (i + 1)) = k := by omega
  rw [ek] at hrun hown1
  have hown2 : w1.ownsRow base 45 2 (.slice (some ⟨g, 0, none⟩) k cap) k (flatC (L.eraseIdx i)) := by
    rw [flatC_take, flatC_drop] at hown1
    rw [List.eraseIdx_eq_take_drop_succ]
    have : flatC (L.take i) ++ flatC (L.drop (i + 1)) = flatC (L.take i ++ L.drop (i + 1)) := by simp [flatC]
    rw [← this]
    exact hown1
  clear hown1
  have hu1 : Upd w g w1 := (Upd.refl w g).drew.trans hgr
  have hsp : (w1.cell? ⟨g, k * 2, none⟩).isSome = true ∧ (w1.cell? ⟨g, k * 2 + 1, none⟩).isSome = true ∧ w1.frozen? ⟨g, k * 2, none⟩ = false ∧ w1.frozen? ⟨g, k * 2 + 1, none⟩ = false := by
    refine ⟨?_, ?_, hown2.frozenAt _, hown2.frozenAt _⟩ <;> exact spare_some hown2 _ (by omega)
  obtain ⟨s1, s2, f1, f2⟩ := hsp
  obtain ⟨x, s1⟩ := Option.isSome_iff_exists.1 s1
  obtain ⟨y, s2⟩ := Option.isSome_iff_exists.1 s2
  have hclr := clear_one g (k * 2) (cap - k) w1 x y s1 s2 f1 f2
  have hout : ((w1.setCell ⟨g, k * 2, none⟩ (.int .i64 0)).setCell ⟨g, k * 2 + 1, none⟩ (.string ⟨#[]⟩)).ownsRow base 45 2 (.slice (some ⟨g, 0, none⟩) k cap) k (flatC (L.eraseIdx i)) := by
    have e1 := (hown2.stored (k * 2) (.int .i64 0)).1
    have hl := hown2.1
    rw [List.set_eq_of_length_le (by omega)] at e1
    have e2 := (e1.stored (k * 2 + 1) (.string ⟨#[]⟩)).1
    rwa [List.set_eq_of_length_le (by omega)] at e2
  have q8 : (k : Int) ≤ L.length := by omega
  have q9 : ((L.length : Int)).toNat = L.length := rfl
  have q10 : L.length - k = 1 := by omega
  have q11 : ¬ cap = k := by omega
  have q12 : L.length - 1 = k := by omega
  rw [q12]
  generalize hn : L.length = n at *
  go_enter Try.func64, Try.ntmps64
  go_wp2
  go_region_law (refine wp_append_at (.tmp 22) (.tmp 25) 22 rfl (.slice (some ⟨g, 0, none⟩) i cap) (.slice (if cap = i + 1 then some ⟨g, 0, none⟩ else some ⟨g, (i + 1) * 2, none⟩) (n - (i + 1)) (cap - (i + 1))) rfl rfl hrun ?_)
  go_wp2
  all_goals (
    go_ret
    refine ⟨rfl, ?_, ?_⟩
    · first
        | exact hout
        | (rw [show i + 1 = cap from by omega]; exact hout)
    · exact (hu1.trans (Upd.setCell _ _ _ _)).trans (Upd.setCell _ _ _ _))
end Go.Proofs.Ytfinljcembipkaa
