/- Arrays: all keys in order; Keys and Count. -/
import Derived.Test.YtgdbhmdhonnmgaaDoorArF
namespace Go.Proofs.YtgdbhmdhonnmgaaDoor
open Go.RowKit Go.Maps
set_option linter.unusedVariables false
set_option maxRecDepth 20000
set_option linter.unusedSimpArgs false
set_option maxRecDepth 20000

theorem SlI.news {w : World} {b off cap : Nat} {m : List Int} (h : SlI w (some ⟨b, off, none⟩) cap m) : ∀ j u, (intVs m)[j]? = some u → w.cell? ((⟨b, off, none⟩ : Addr).add j) = some u := by
  intro j u hj
  have hjl := (List.getElem?_eq_some_iff.1 hj).1
  rw [intVs_length] at hjl
  obtain ⟨b', off', e, hc⟩ := h.at_ j hjl
  simp only [Option.some.injEq, Addr.mk.injEq, and_true] at e
  obtain ⟨rfl, rfl⟩ := e
  rw [intVs_get m j hjl] at hj
  rw [Go.WideShapes.add_plain, hc, hj]
/-- append of a list to a row of the call's own -/
theorem append_ints (w : World) (base : Nat) (v : Value) (l m : List Int) (b off cap : Nat) (hown : w.ownsRow base 3 1 v l.length (intVs l)) (hm : SlI w (some ⟨b, off, none⟩) cap m) (hl : l.length + m.length ≤ 100000) (hb : base ≤ w.heap.size) :
    ∃ v' w', (Builtin.append_ #[31, 31] 31 #[v, .slice (some ⟨b, off, none⟩) m.length cap]).run Tryd.prog w = .ok v' w' ∧ w'.ownsRow base 3 1 v' (l ++ m).length (intVs (l ++ m)) ∧ w.grownBy w' v.ownBlock ∧ (v'.ownBlock = v.ownBlock ∨ v'.ownBlock = some w.heap.size) := by
  obtain ⟨i0, hi, hz0, hz1, hz2⟩ := info_parts infoI
  obtain ⟨v', w', r1, r2, r3, _, r5⟩ := run_append_own_at (P := Tryd.prog) w base 31 31 3 i0 _ 1 8 Tryd.underlying31 hi hz0 hz1 hz2 rfl (by decide) v l.length (intVs l) hown ⟨b, off, none⟩ m.length cap (intVs m) (by rw [intVs_length]; omega) hm.news (intVs_one m) (by simp only [maxLen]; omega) (by omega) hb
  refine ⟨v', w', r1, ?_, r3, r5⟩
  have e : intVs l ++ intVs m = intVs (l ++ m) := by simp [intVs]
  rw [e] at r2
  have e2 : (l ++ m).length = l.length + m.length := List.length_append
  rw [e2]
  exact r2
theorem flat_take_le (LL : List (List Int)) (k : Nat) : (LL.take k).flatten.length ≤ LL.flatten.length := by
  have : LL.flatten.length = (LL.take k).flatten.length + (LL.drop k).flatten.length := by
    conv => lhs; rw [← List.take_append_drop k LL]
    simp only [List.flatten_append, List.length_append]
  omega
/-- the first blocks are gathered -/
def FlatR (LL : List (List Int)) (w : World) (i v : Value) (wr : World) : Prop :=
  ∃ k : Nat, k ≤ LL.length ∧ i = .int .i64 k ∧ wr.ownsRow w.heap.size 3 1 v (LL.take k).flatten.length (intVs (LL.take k).flatten) ∧ Ext w wr


end Go.Proofs.YtgdbhmdhonnmgaaDoor
