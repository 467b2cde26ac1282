/- Arrays, the reference: spot, copied. -/
import Derived.Test.YtgdbhmdhonnmgaaDoorArQ
namespace Go.Proofs.YtgdbhmdhonnmgaaDoor
open Go.RowKit Go.Maps
set_option linter.unusedVariables false
set_option maxRecDepth 20000
set_option linter.unusedSimpArgs false
set_option maxRecDepth 20000

/-- the last of the first k blocks that begins not behind index -/
def spotQ (LL : List (List Int)) (index : Nat) : Nat → Nat × Nat
  | 0 => (0, 0)
  | k + 1 => if lenT LL k ≤ index then (k, lenT LL k) else spotQ LL index k
theorem spotQ_pos {LL : List (List Int)} {index k : Nat} (h : lenT LL k ≤ index) : spotQ LL index (k + 1) = (k, lenT LL k) := if_pos h
theorem spotQ_neg {LL : List (List Int)} {index k : Nat} (h : ¬ lenT LL k ≤ index) : spotQ LL index (k + 1) = spotQ LL index k := if_neg h
theorem lenT_mono (LL : List (List Int)) {i j : Nat} (h : i ≤ j) (hj : j ≤ LL.length) : lenT LL i ≤ lenT LL j := by
  induction j with
  | zero => obtain rfl : i = 0 := by omega
            exact Nat.le_refl _
  | succ j ih =>
    by_cases he : i = j + 1
    · subst he; exact Nat.le_refl _
    · have := ih (by omega) (by omega)
      rw [lenT_succ (by omega : j < LL.length)]
      omega
theorem spotQ_spot {LL : List (List Int)} {index q p : Nat} (h : Spot LL index q p) : spotQ LL index LL.length = (q, lenT LL q) := by
  obtain ⟨h1, h2, h3⟩ := h
  have hq : lenT LL q ≤ index := by unfold lenT; omega
  have key : ∀ k, q < k → k ≤ LL.length → spotQ LL index k = (q, lenT LL q) := by
    intro k
    induction k with
    | zero => intro h; omega
    | succ k ih =>
      intro hk hle
      by_cases he : k = q
      · subst he; exact spotQ_pos hq
      · have hm := lenT_mono LL (show q + 1 ≤ k by omega) (by omega)
        rw [lenT_succ h1] at hm
        have : ¬ lenT LL k ≤ index := by
          rcases h3 with h3 | ⟨h3, _⟩
          · unfold lenT at *; omega
          · omega
        rw [spotQ_neg this]
        exact ih (by omega) (by omega)
  exact key _ h1 (Nat.le_refl _)


theorem SlA.take {w : World} {P : Option Addr} {cap : Nat} {Q : Nat → Option Addr} {C : Nat → Nat} {LL : List (List Int)} (h : SlA w P cap Q C LL) (n : Nat) : SlA w P cap Q C (LL.take n) := by
  have hl : (LL.take n).length ≤ LL.length := by rw [List.length_take]; omega
  have hn : ∀ i, i < (LL.take n).length → nthA (LL.take n) i = nthA LL i := fun i hi => by
    rw [List.length_take] at hi
    simp [nthA, List.getD_eq_getElem?_getD, show i < n by omega]
  refine ⟨fun i hi => ?_, fun i hi => ?_, Nat.le_trans hl h.le, h.cap⟩
  · rw [hn i hi]; exact h.at_ i (by omega)
  · rw [hn i hi]; exact h.row i (by omega)
theorem SlA.empty {w : World} (P : Option Addr) (cap : Nat) (hc : cap ≤ 9223372036854775807) (Q : Nat → Option Addr) (C : Nat → Nat) : SlA w P cap Q C [] :=
  ⟨fun i hi => by simp at hi, fun i hi => by simp at hi, by simp, hc⟩
theorem SlA.drop {w : World} {b off cap : Nat} {Q : Nat → Option Addr} {C : Nat → Nat} {LL : List (List Int)} (h : SlA w (some ⟨b, off, none⟩) cap Q C LL) (n : Nat) (hn : n ≤ LL.length) : SlA w (some ⟨b, off + n, none⟩) (cap - n) (fun i => Q (n + i)) (fun i => C (n + i)) (LL.drop n) := by
  have hl : (LL.drop n).length = LL.length - n := List.length_drop
  have hd : ∀ i, nthA (LL.drop n) i = nthA LL (n + i) := fun i => by simp [nthA, List.getD_eq_getElem?_getD, List.getElem?_drop]
  have h1 := h.le
  have h2 := h.cap
  refine ⟨fun i hi => ?_, fun i hi => ?_, by omega, by omega⟩
  · rw [hd]
    obtain ⟨b', o', e, hc⟩ := h.at_ (n + i) (by omega)
    simp only [Option.some.injEq, Addr.mk.injEq, and_true] at e
    obtain ⟨rfl, rfl⟩ := e
    exact ⟨b, off + n, rfl, by rw [Nat.add_assoc]; exact hc⟩
  · rw [hd]; exact h.row (n + i) (by omega)

/-- a list appended to an empty new one -/
theorem fresh_ints (w : World) (l : List Int) (b off cap : Nat) (h : SlI w (some ⟨b, off, none⟩) cap l) (hn : l.length ≤ 2000) :
    ∃ v' w', (Builtin.append_ #[31, 31] 31 #[.slice (some ⟨w.heap.size, 0, none⟩) 0 0, .slice (some ⟨b, off, none⟩) l.length cap]).run Tryd.prog (w.alloc (.cells #[] 3)) = .ok v' w' ∧ w'.ownsRow w.heap.size 3 1 v' l.length (intVs l) ∧ Ext w w' := by
  have h1 : (w.alloc (.cells #[] 3)).ownsRow w.heap.size 3 1 (.slice (some ⟨w.heap.size, 0, none⟩) 0 0) ([] : List Int).length (intVs []) := World.ownsRow_made w #[] 0 (Nat.le_refl _) (by simp [maxLen]) (by simp)
  have hx1 : Ext w (w.alloc (.cells #[] 3)) := (Ext.refl w).alloc _
  obtain ⟨v', w', hrun, hown, hg, hb⟩ := append_ints (w.alloc (.cells #[] 3)) w.heap.size (.slice (some ⟨w.heap.size, 0, none⟩) 0 0) [] l b off cap h1 (h.ext hx1) (by simp; omega) (by simp)
  rw [List.nil_append] at hown
  exact ⟨v', w', hrun, hown, Below.grown hx1 hg (by simp) (fun k hk => by simp [Value.ownBlock] at hk; omega)⟩

/-- the first blocks are copied -/
def CopR (LL : List (List Int)) (w : World) (i v : Value) (wr : World) : Prop :=
  ∃ (k : Nat) (RR : List Row), k ≤ LL.length ∧ i = .int .i64 k ∧ OwnA wr w.heap.size v RR ∧ RR.map Row.l = LL.take k ∧ Ext w wr

end Go.Proofs.YtgdbhmdhonnmgaaDoor
