/- slices.Delete of one cell. -/
import Derived.Test.YtnileonlabpbpaaBackA
import Derived.Deep.RegionLaw
namespace Go.Proofs.Ytnileonlabpbpaa
open Go.RowKit
set_option linter.unusedVariables false
set_option maxRecDepth 20000

theorem ownsRow_head {w : World} {base : Nat} {g n cap : Nat} {xs : List Value} (h : w.ownsRow base 85 2 (.slice (some ⟨g, 0, none⟩) n cap) n xs) (i : Nat) (hi : i ≤ n) :
    w.ownsRow base 85 2 (.slice (some ⟨g, 0, none⟩) i cap) i (xs.take (i * 2)) := by
  refine ⟨by rw [List.length_take, h.1]; omega, ?_⟩
  rcases h.2 with ⟨h', _⟩ | ⟨g', cap', cur, h', hb, hg, hnc, hcm, hcs, htake⟩
  · simp at h'
  · simp only [Value.slice.injEq, Option.some.injEq, Addr.mk.injEq, and_true, true_and] at h'
    obtain ⟨rfl, rfl⟩ := h'
    refine .inr ⟨g, cap, cur, rfl, hb, hg, by omega, hcm, hcs, ?_⟩
    rw [← htake, List.take_take]
    congr 1
    omega
theorem flatC_take (l : List Cel) (i : Nat) : (flatC l).take (i * 2) = flatC (l.take i) := by
  induction l generalizing i with
  | nil => simp [flatC]
  | cons c l ih =>
    cases i with
    | zero => simp [flatC]
    | succ i =>
      have e : (i + 1) * 2 = i * 2 + 1 + 1 := by omega
      have h := ih i
      simp only [flatC, List.flatMap_cons, List.cons_append, List.nil_append, List.take_succ_cons, e] at h ⊢
      rw [h]
theorem flatC_drop (l : List Cel) (i : Nat) : (flatC l).drop (i * 2) = flatC (l.drop i) := by
  induction l generalizing i with
  | nil => simp [flatC]
  | cons c l ih =>
    cases i with
    | zero => simp
    | succ i =>
      have e : (i + 1) * 2 = i * 2 + 1 + 1 := by omega
      have h := ih i
      simp only [flatC, List.flatMap_cons, List.cons_append, List.nil_append, List.drop_succ_cons, e] at h ⊢
      rw [h]

/-- a cell of an owned row's block, filled or spare -/
theorem spare_some {w : World} {base : Nat} {e : TypeId} {size g n cap : Nat} {xs : List Value} (h : w.ownsRow base e size (.slice (some ⟨g, 0, none⟩) n cap) n xs) (j : Nat) (hj : j < cap * size) : (w.cell? ⟨g, j, none⟩).isSome = true := by
  rcases h.2 with ⟨h', _⟩ | ⟨g', cap', cur, h', hb, hg, hnc, hcm, hcs, htake⟩
  · simp at h'
  · simp only [Value.slice.injEq, Option.some.injEq, Addr.mk.injEq, and_true, true_and] at h'
    obtain ⟨rfl, rfl⟩ := h'
    rw [cell_of_row w g j cur e (0, 0) hg]
    simp [hcs, hj]
theorem clear_one (g o c : Nat) (w : World) (x y : Value) (h1 : w.cell? ⟨g, o, none⟩ = some x) (h2 : w.cell? ⟨g, o + 1, none⟩ = some y) (f1 : w.frozen? ⟨g, o, none⟩ = false) (f2 : w.frozen? ⟨g, o + 1, none⟩ = false) :
    (Builtin.clear_ #[81] 0 #[.slice (some ⟨g, o, none⟩) 1 c]).run Try.prog w = .ok (.tuple #[]) ((w.setCell ⟨g, o, none⟩ (.int .i64 0)).setCell ⟨g, o + 1, none⟩ (.string ⟨#[]⟩)) := by
  unfold Builtin.clear_
  go_simp
  have e : (Builtin.zeroCells #[Value.int IntKind.i64 0, Value.string { data := #[] }] 1).toList = [.int .i64 0, .string ⟨#[]⟩] := by simp [Builtin.zeroCells, Array.range]
  rw [e]
  have n1 : (⟨g, o, none⟩ : Addr) ≠ ⟨g, o + 1, none⟩ := fun h => by have := congrArg Addr.off h; simp at this
  have g2 : (w.setCell ⟨g, o, none⟩ (.int .i64 0)).cell? ⟨g, o + 1, none⟩ = some y := by rw [World.cell?_setCell_other _ _ _ _ n1]; exact h2
  have g3 : (w.setCell ⟨g, o, none⟩ (.int .i64 0)).frozen? ⟨g, o + 1, none⟩ = false := by rw [World.frozen?_setCell]; exact f2
  go_simp


end Go.Proofs.Ytnileonlabpbpaa
