/- ChainTexts: what the parsers read, line by line. -/
import Derived.Test.YtpobjheodlkkiaaGreatDoorChTC
import Derived.Test.YtpobjheodlkkiaaGreatDoorTxG
import Derived.Test.YtpobjheodlkkiaaGreatDoorTxF
import Derived.Test.YtpobjheodlkkiaaGreatDoorChQ
import Derived.RangeFuncBox
namespace Go.Proofs.YtpobjheodlkkiaaGreatDoor
open Go.RowKit Go.Maps
set_option linter.unusedVariables false
set_option linter.unusedSimpArgs false
set_option linter.unusedSectionVars false

/-- block B holds the values C, all of them free to be written -/
def BoxN (W : World) (B : Nat) (t : TypeId) (C : Array Value) : Prop := W.heap[B]? = some (.cells C t (0, 0))
theorem BoxN.lt {W : World} {B : Nat} {t : TypeId} {C : Array Value} (h : BoxN W B t C) : B < W.heap.size := (Array.getElem?_eq_some_iff.1 h).1
theorem BoxN.cell {W : World} {B : Nat} {t : TypeId} {C : Array Value} (h : BoxN W B t C) {i : Nat} {v : Value} (hv : C[i]? = some v) : W.cell? ⟨B, i, none⟩ = some v := by
  unfold World.cell?
  simp only [show W.heap[B]? = _ from h]
  exact hv
theorem BoxN.frozen {W : World} {B : Nat} {t : TypeId} {C : Array Value} (h : BoxN W B t C) (i : Nat) : W.frozen? ⟨B, i, none⟩ = false := by
  unfold World.frozen?
  simp only [show W.heap[B]? = _ from h]
  simp
theorem BoxN.new (W : World) (t : TypeId) (C : Array Value) : BoxN (W.alloc (.cells C t)) W.heap.size t C := World.alloc_heap_new W _
theorem BoxN.ext {W W' : World} {B : Nat} {t : TypeId} {C : Array Value} (h : BoxN W B t C) (hx : Ext W W') : BoxN W' B t C := hx.heap h
theorem BoxN.set {W : World} {B : Nat} {t : TypeId} {C : Array Value} (h : BoxN W B t C) (i : Nat) (v : Value) : BoxN (W.setCell ⟨B, i, none⟩ v) B t (C.setIfInBounds i v) := by
  obtain ⟨hlt, hk⟩ := Array.getElem?_eq_some_iff.1 h
  show (W.heap.modify B _)[B]? = _
  rw [Array.getElem?_eq_getElem (by rw [Array.size_modify]; exact hlt), Array.getElem_modify_self, hk]
  rfl
def I4 (a b c d : Int) : Array Value := #[.int .i64 a, .int .i64 b, .int .i64 c, .int .i64 d]

theorem tw_mem (f : UInt8 → Bool) : ∀ (l : List UInt8) (c : UInt8), c ∈ l.takeWhile f → f c = true
  | [], c, h => by simp at h
  | x :: l, c, h => by
    rw [List.takeWhile_cons] at h
    split at h
    · rename_i hx
      rcases List.mem_cons.1 h with rfl | h
      · exact hx
      · exact tw_mem f l c h
    · simp at h
theorem whole_in (t : List UInt8) : OkI (wholeF t).1 := by
  have key : ∀ (m : Bool) (t : List UInt8), OkI (magF m t).1 := fun m t => by
    unfold magF
    split
    · exact ⟨by decide, by decide⟩
    · rename_i h
      have h17 : (dgs t).length ≤ 16 := by
        have : ¬ 17 ≤ (dgs t).length := fun e => h (.inr (.inr (.inr e)))
        omega
      have hs := spell_lt (dgs t) 0 (fun c hc => by unfold dgs at hc; exact tw_mem _ _ _ hc)
      have hp : (10 : Nat) ^ (dgs t).length ≤ 10 ^ 16 := Nat.pow_le_pow_right (by omega) h17
      have : spell 0 (dgs t) < 10 ^ 16 := by omega
      have e16 : (10 : Nat) ^ 16 = 10000000000000000 := by decide
      rw [e16] at this
      unfold OkI
      simp only
      split <;> omega
  unfold wholeF numF
  split
  · exact key _ _
  · exact key _ _
/-! ### the reference, line by line -/
theorem readRC_snoc : ∀ (xs : List (List UInt8)) (y : List UInt8) (l : List Lk) (z : Lk), readRC xs = some l → lineRC y = some z → readRC (xs ++ [y]) = some (l ++ [z])
  | [], y, l, z, h, hy => by
    injection h with h
    subst h
    show readRC [y] = _
    rw [readRC, hy, readRC]
    rfl
  | x :: xs, y, l, z, h, hy => by
    rw [readRC] at h
    rw [List.cons_append, readRC]
    cases hx : lineRC x with
    | none => rw [hx] at h; cases h
    | some q =>
      rw [hx] at h
      simp only at h ⊢
      cases hr : readRC xs with
      | none => rw [hr] at h; cases h
      | some l' =>
        rw [hr] at h
        injection h with h
        subst h
        rw [readRC_snoc xs y l' z hr hy]
        rfl
theorem readRC_bad : ∀ (xs : List (List UInt8)) (y : List UInt8), y ∈ xs → lineRC y = none → readRC xs = none
  | [], y, h, _ => by simp at h
  | x :: xs, y, h, hy => by
    rw [readRC]
    rcases List.mem_cons.1 h with rfl | h
    · rw [hy]
    · rw [readRC_bad xs y h hy]
      split <;> rfl
theorem readRC_facts : ∀ (xs : List (List UInt8)) (l : List Lk), readRC xs = some l → l.length = xs.length ∧ ∀ x ∈ l, OkK x
  | [], l, h => by injection h with h; subst h; exact ⟨rfl, by simp⟩
  | x :: xs, l, h => by
    rw [readRC] at h
    cases hx : lineRC x with
    | none => rw [hx] at h; cases h
    | some q =>
      rw [hx] at h
      simp only at h
      cases hr : readRC xs with
      | none => rw [hr] at h; cases h
      | some l' =>
        rw [hr] at h
        injection h with h
        subst h
        obtain ⟨h1, h2⟩ := readRC_facts xs l' hr
        refine ⟨by simp [h1], fun y hy => ?_⟩
        rcases List.mem_cons.1 hy with rfl | hy
        · unfold lineRC at hx
          split at hx
          · split at hx
            · injection hx with hx
              subst hx
              exact ⟨whole_in _, whole_in _, whole_in _, whole_in _⟩
            · cases hx
          · cases hx
        · exact h2 y hy
/-- a line as the reference has it cut -/
theorem lineRC_B (y : ByteArray) : lineRC y.data.toList = match cutB 32 y with
    | [a, b, c, d] => if (wholeF a.data.toList).2 && (wholeF b.data.toList).2 && (wholeF c.data.toList).2 && (wholeF d.data.toList).2 then some ((wholeF a.data.toList).1, (wholeF b.data.toList).1, (wholeF c.data.toList).1, (wholeF d.data.toList).1) else none
    | _ => none := by
  unfold lineRC cutB
  generalize cutC 32 y.data.toList = z
  match z with
  | [] => rfl
  | [_] => rfl
  | [_, _] => rfl
  | [_, _, _] => rfl
  | [a, b, c, d] => rfl
  | _ :: _ :: _ :: _ :: _ :: _ => rfl
theorem lineRC_len (y : ByteArray) (h : (cutB 32 y).length ≠ 4) : lineRC y.data.toList = none := by
  rw [lineRC_B]
  generalize cutB 32 y = z at *
  match z, h with
  | [], h => rfl
  | [_], h => rfl
  | [_, _], h => rfl
  | [_, _, _], h => rfl
  | [a, b, c, d], h => exact absurd rfl h
  | _ :: _ :: _ :: _ :: _ :: _, h => rfl
theorem four_of {α : Type} {l : List α} (h : l.length = 4) : ∃ a b c d, l = [a, b, c, d] := by
  match l, h with
  | [a, b, c, d], _ => exact ⟨a, b, c, d, rfl⟩
end Go.Proofs.YtpobjheodlkkiaaGreatDoor
