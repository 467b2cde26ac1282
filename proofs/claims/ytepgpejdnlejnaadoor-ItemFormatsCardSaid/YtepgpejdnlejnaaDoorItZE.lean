/- strings.SplitSeq at "; ": what it yields. -/
import Derived.Test.YtepgpejdnlejnaaDoorItZD
import Derived.Test.YtepgpejdnlejnaaDoorRangeK
import Derived.Test.YtepgpejdnlejnaaDoorShelfC
import Derived.Stop.RegionWithIn
import Derived.Sort.QuietIn
import Derived.Sort.LoopGhostIn
import Derived.StillTailTactics
namespace Go.Proofs.YtepgpejdnlejnaaDoor
open Go.RowKit
set_option linter.unusedVariables false
set_option linter.unusedSimpArgs false
set_option linter.unusedSectionVars false
set_option maxRecDepth 100000
attribute [local go_sem] Oper.semAt_some

/-- the first "; " of a text: what stands ahead and behind -/
def firstS : List UInt8 → Option (List UInt8 × List UInt8)
  | [] => none
  | x :: r => match x == 59, r with
    | true, 32 :: r' => some ([], r')
    | _, r => (firstS r).map fun z => (x :: z.1, z.2)
theorem firstS_sep (r : List UInt8) : firstS (59 :: 32 :: r) = some ([], r) := by rw [firstS]; rfl
theorem firstS_cons (x : UInt8) (r : List UInt8) (h : ¬ (x = 59 ∧ r.head? = some 32)) : firstS (x :: r) = (firstS r).map fun z => (x :: z.1, z.2) := by
  rw [firstS]
  intro r' h1 h2
  exact h ⟨by simpa using h1, by rw [h2]; rfl⟩
theorem sep_or (x : UInt8) (r : List UInt8) : (∃ r', x :: r = 59 :: 32 :: r') ∨ ¬ (x = 59 ∧ r.head? = some 32) := by
  by_cases h : x = 59 ∧ r.head? = some 32
  · left
    obtain ⟨rfl, h2⟩ := h
    cases r with
    | nil => simp at h2
    | cons y r =>
      simp only [List.head?_cons, Option.some.injEq] at h2
      subst h2
      exact ⟨r, rfl⟩
  · exact .inr h
theorem cut_first : ∀ t : List UInt8, cutS t = match firstS t with
    | none => [t]
    | some (a, r) => a :: cutS r
  | [] => by rw [cutS, firstS]
  | x :: r => by
    rcases sep_or x r with ⟨r', h⟩ | h
    · rw [h, cutS_sep, firstS_sep]
    · rw [cutS_cons x r h, firstS_cons x r h, cut_first r]
      cases hf : firstS r with
      | none => rfl
      | some z => rfl
theorem index_first : ∀ t : List UInt8, Lib.index t [59, 32] = match firstS t with
    | none => -1
    | some (a, _) => (a.length : Int)
  | [] => by rw [firstS]; rfl
  | x :: r => by
    have ih := index_first r
    rcases sep_or x r with ⟨r', h⟩ | h
    · rw [h, firstS_sep]
      rfl
    · rw [firstS_cons x r h]
      have hp : List.isPrefixOf [59, 32] (x :: r) = false := by
        cases r with
        | nil => simp [List.isPrefixOf]
        | cons y r =>
          simp only [List.head?_cons, Option.some.injEq, not_and] at h
          simp only [List.isPrefixOf, Bool.and_true, Bool.and_eq_false_iff, beq_eq_false_iff_ne, ne_eq]
          by_cases h1 : 59 = x
          · exact .inr (fun e => h h1.symm e.symm)
          · exact .inl h1
      rw [Lib.index, hp, ih]
      cases hf : firstS r with
      | none => rfl
      | some z =>
        simp only [Option.map_some]
        rw [if_neg (by simp), if_neg (by
          rw [beq_iff_eq]
          omega)]
        simp
theorem first_app : ∀ {t a r : List UInt8}, firstS t = some (a, r) → t = a ++ 59 :: 32 :: r
  | [], a, r, h => by rw [firstS] at h; cases h
  | x :: q, a, r, h => by
    rcases sep_or x q with ⟨r', e⟩ | e
    · rw [e, firstS_sep] at h
      injection h with h
      injection h with h1 h2
      subst h1 h2
      exact e
    · rw [firstS_cons x q e] at h
      cases hf : firstS q with
      | none => rw [hf] at h; cases h
      | some z =>
        obtain ⟨a', r'⟩ := z
        rw [hf] at h
        injection h with h
        injection h with h1 h2
        subst h1 h2
        rw [first_app hf]
        rfl
/-- what is left at part i -/
def restS (t : List UInt8) : Nat → List UInt8
  | 0 => t
  | i + 1 => match firstS (restS t i) with
    | none => []
    | some (_, r) => r
theorem rest_cut (t : List UInt8) : ∀ i, i < (cutS t).length → cutS (restS t i) = (cutS t).drop i
  | 0, _ => rfl
  | i + 1, h => by
    have ih := rest_cut t i (by omega)
    have hc := cut_first (restS t i)
    cases hf : firstS (restS t i) with
    | none =>
      rw [hf, ih] at hc
      have := congrArg List.length hc
      simp only [List.length_drop, List.length_cons, List.length_nil] at this
      omega
    | some z =>
      obtain ⟨a, r⟩ := z
      rw [hf, ih] at hc
      simp only at hc
      have e : restS t (i + 1) = r := by unfold restS; rw [hf]
      rw [e, ← List.drop_drop, hc]
      rfl
theorem rest_len (t : List UInt8) : ∀ i, (restS t i).length ≤ t.length
  | 0 => Nat.le_refl _
  | i + 1 => by
    have ih := rest_len t i
    unfold restS
    cases hf : firstS (restS t i) with
    | none => simp
    | some z =>
      obtain ⟨a, r⟩ := z
      have := congrArg List.length (first_app hf)
      simp at this ⊢
      omega
/-- part i: the last one, or one ahead of a "; " -/
theorem part_at (t : List UInt8) (i : Nat) (h : i < (cutS t).length) : (firstS (restS t i) = none ∧ i + 1 = (cutS t).length ∧ (cutS t).getD i [] = restS t i) ∨
    ∃ a r, firstS (restS t i) = some (a, r) ∧ i + 1 < (cutS t).length ∧ (cutS t).getD i [] = a ∧ restS t (i + 1) = r := by
  have hr := rest_cut t i h
  have hc := cut_first (restS t i)
  have hg : (cutS t).getD i [] = ((cutS t).drop i).getD 0 [] := by simp [List.getD_eq_getElem?_getD]
  cases hf : firstS (restS t i) with
  | none =>
    rw [hf, hr] at hc
    left
    refine ⟨rfl, ?_, by rw [hg, hc]; rfl⟩
    have := congrArg List.length hc
    simp only [List.length_drop, List.length_cons, List.length_nil] at this
    omega
  | some z =>
    obtain ⟨a, r⟩ := z
    rw [hf, hr] at hc
    simp only at hc
    right
    refine ⟨a, r, rfl, ?_, by rw [hg, hc]; rfl, by show (match firstS (restS t i) with | none => [] | some (_, r) => r) = r; rw [hf]⟩
    have := congrArg List.length hc
    have h2 := cutS_ne r
    have h3 : 0 < (cutS r).length := by
      cases hq : cutS r with
      | nil => exact absurd hq h2
      | cons x l => simp
    simp only [List.length_drop, List.length_cons] at this
    omega
def partV (s : ByteArray) (i : Nat) : Value := .string (mkB ((cutS s.data.toList).getD i []))
/-- what the iterator's cell holds: ahead of yield i what was there at yield i - 1 -/
def leftV (s : ByteArray) : Nat → Value
  | 0 => .string s
  | i + 1 => .string (mkB (restS s.data.toList i))
theorem setCell_same {W : World} {c : Nat} {t : TypeId} {v : Value} (h : Boxed W c t v) : W.setCell ⟨c, 0, none⟩ v = W := by
  have hx : (W.setCell ⟨c, 0, none⟩ v).heap = W.heap := by
    apply Array.ext_getElem?
    intro i
    by_cases hi : i = c
    · subst hi
      exact (h.set v : _ = _).trans h.symm
    · exact Below.heap_setCell W ⟨c, 0, none⟩ v i hi
  have e : W.setCell ⟨c, 0, none⟩ v = { W with heap := (W.setCell ⟨c, 0, none⟩ v).heap } := rfl
  rw [e, hx]
end Go.Proofs.YtepgpejdnlejnaaDoor
