/- Rings in plain words: a ring of which one Next, Prior or Owner was changed is none. -/
import Derived.Test.YthmcdlieglollaaChM
namespace Go.Proofs.Ythmcdlieglollaa
open Go.RowKit
set_option linter.unusedVariables false
set_option linter.unusedSimpArgs false
set_option linter.unusedSectionVars false

def tot : List Int → Int
  | [] => 0
  | x :: l => x + tot l
theorem tot_perm {l m : List Int} (h : l.Perm m) : tot l = tot m := by
  induction h with
  | nil => rfl
  | cons x _ ih => simp only [tot]; rw [ih]
  | swap x y l => simp only [tot]; omega
  | trans _ _ h1 h2 => rw [h1, h2]
theorem tot_set : ∀ (l : List Int) (i : Nat) (x : Int), i < l.length → tot (l.set i x) = tot l - nthI l i + x
  | [], i, x, h => by simp at h
  | y :: l, 0, x, h => by
    simp only [List.set_cons_zero, tot]
    rw [show nthI (y :: l) 0 = y from rfl]
    omega
  | y :: l, i + 1, x, h => by
    simp only [List.set_cons_succ, tot]
    rw [tot_set l i x (by simpa using h), show nthI (y :: l) (i + 1) = nthI l i from rfl]
    omega
theorem map_nth {l : List Lk} (f : Lk → Int) {i : Nat} (h : i < l.length) : nthI (l.map f) i = f (nthL l i) := by
  unfold nthI nthL
  simp [List.getD_eq_getElem?_getD, h]
section
variable {o : Int} {ms : List Int}
theorem map_built (h : Right (o :: ms)) (f : Lk → Int) : ((builtF o ms).map f).Perm ((o :: ms).map fun k => f (lkF (o :: ms) o k)) := by
  unfold builtF
  rw [List.map_map]
  exact (sortI_perm (o :: ms)).map _
theorem next_perm (h : Right (o :: ms)) : ((builtF o ms).map (·.2.1)).Perm (o :: ms) := by
  refine (map_built h _).trans ?_
  have e : ((o :: ms).map fun k => (lkF (o :: ms) o k).2.1) = ms ++ [o] := by
    apply ext_nthI
    · simp
    · intro j hj
      simp only [List.length_map, List.length_cons] at hj
      have h1 : nthI ((o :: ms).map fun k => (lkF (o :: ms) o k).2.1) j = (lkF (o :: ms) o (nthI (o :: ms) j)).2.1 := by
        have hj2 : j < (o :: ms).length := by simpa using hj
        unfold nthI
        simp only [List.getD_eq_getElem?_getD, List.getElem?_map, List.getElem?_eq_getElem hj2, Option.map_some, Option.getD_some]
      rw [h1, lk_round h hj]
      show nthI (o :: ms) ((j + 1) % (ms.length + 1)) = _
      by_cases hl : j < ms.length
      · rw [Nat.mod_eq_of_lt (by omega)]
        unfold nthI
        rw [List.getD_eq_getElem?_getD, List.getD_eq_getElem?_getD, List.getElem?_append_left hl, List.getElem?_cons_succ]
      · obtain rfl : j = ms.length := by omega
        rw [Nat.mod_self]
        unfold nthI
        rw [List.getD_eq_getElem?_getD, List.getD_eq_getElem?_getD, List.getElem?_append_right (Nat.le_refl _)]
        simp
  rw [e]
  exact (List.perm_append_comm (l₁ := ms) (l₂ := [o]))
theorem prior_perm (h : Right (o :: ms)) : ((builtF o ms).map (·.2.2.1)).Perm (o :: ms) := by
  refine (map_built h _).trans ?_
  have e : ((o :: ms).map fun k => (lkF (o :: ms) o k).2.2.1) = nthI (o :: ms) ms.length :: (o :: ms).take ms.length := by
    apply ext_nthI
    · simp
    · intro j hj
      simp only [List.length_map, List.length_cons] at hj
      have h1 : nthI ((o :: ms).map fun k => (lkF (o :: ms) o k).2.2.1) j = (lkF (o :: ms) o (nthI (o :: ms) j)).2.2.1 := by
        have hj2 : j < (o :: ms).length := by simpa using hj
        unfold nthI
        simp only [List.getD_eq_getElem?_getD, List.getElem?_map, List.getElem?_eq_getElem hj2, Option.map_some, Option.getD_some]
      rw [h1, lk_round h hj]
      show nthI (o :: ms) ((j + ms.length) % (ms.length + 1)) = _
      cases j with
      | zero => rw [Nat.zero_add, Nat.mod_eq_of_lt (by omega)]; rfl
      | succ j =>
        rw [show j + 1 + ms.length = j + (ms.length + 1) from by omega, Nat.add_mod_right, Nat.mod_eq_of_lt (by omega)]
        unfold nthI
        rw [List.getD_eq_getElem?_getD, List.getD_eq_getElem?_getD, List.getElem?_cons_succ, List.getElem?_take, if_pos (by omega)]
  rw [e]
  have h2 : (o :: ms) = (o :: ms).take ms.length ++ [nthI (o :: ms) ms.length] := by
    have h3 : ms.length < (o :: ms).length := by simp
    rw [nthI_get h3, ← List.take_succ_eq_append_getElem h3, List.take_of_length_le (by simp)]
  have h4 : (nthI (o :: ms) ms.length :: (o :: ms).take ms.length).Perm ((o :: ms).take ms.length ++ [nthI (o :: ms) ms.length]) :=
    (List.perm_append_comm (l₁ := [nthI (o :: ms) ms.length]) (l₂ := (o :: ms).take ms.length))
  rw [← h2] at h4
  exact h4
theorem built_owner {i : Nat} (hi : i < ms.length + 1) : (nthL (builtF o ms) i).2.2.2 = o := by rw [built_at hi]; rfl
theorem nthL_set {l : List Lk} {i j : Nat} {x : Lk} (h : i < l.length) : nthL (l.set i x) j = if i = j then x else nthL l j := by
  unfold nthL
  rw [List.getD_eq_getElem?_getD, List.getElem?_set]
  by_cases e : i = j
  · subst e; simp [h]
  · simp [e, List.getD_eq_getElem?_getD]
theorem ks_set {l : List Lk} {i : Nat} {x : Lk} (h : i < l.length) (hx : x.1 = (nthL l i).1) : ks (l.set i x) = ks l := by
  unfold ks
  rw [List.map_set, hx]
  apply List.ext_getElem
  · simp
  · intro k h1 h2
    simp only [List.getElem_set, List.getElem_map]
    split
    · rename_i e; subst e; rw [nthL_get h]
    · rfl
theorem damaged (h : Right (o :: ms)) {i : Nat} (hi : i < ms.length + 1) (x : Lk) (hk : x.1 = (nthL (builtF o ms) i).1)
    (hx : (x.2.1 ≠ (nthL (builtF o ms) i).2.1) ∨ (x.2.2.1 ≠ (nthL (builtF o ms) i).2.2.1) ∨ (x.2.2.2 ≠ (nthL (builtF o ms) i).2.2.2)) :
    validB ((builtF o ms).set i x) = false := by
  rw [Bool.eq_false_iff]
  intro hv
  obtain ⟨o', ms', e, h', ho'⟩ := validB_is hv
  have hlen := built_len o ms
  have hil : i < (builtF o ms).length := by omega
  have hks := ks_set hil hk
  rw [e, built_ks, built_ks] at hks
  have hp : (o' :: ms').Perm (o :: ms) := (sortI_perm _).symm.trans (hks ▸ sortI_perm (o :: ms))
  have hml : ms'.length = ms.length := by have := hp.length_eq; simpa using this
  rcases hx with hx | hx | hx
  · have h1 := tot_perm (next_perm h)
    have h2 := tot_perm (next_perm h')
    rw [← e, List.map_set, tot_set _ _ _ (by simpa using hil), map_nth _ hil, h1, tot_perm hp] at h2
    omega
  · have h1 := tot_perm (prior_perm h)
    have h2 := tot_perm (prior_perm h')
    rw [← e, List.map_set, tot_set _ _ _ (by simpa using hil), map_nth _ hil, h1, tot_perm hp] at h2
    omega
  · rw [built_owner hi] at hx
    have hxo : x.2.2.2 = o' := by
      have h1 : (nthL (builtF o' ms') i).2.2.2 = o' := built_owner (by omega)
      rw [← e, nthL_set hil, if_pos rfl] at h1
      exact h1
    by_cases h0 : ms.length = 0
    · have hm0 : ms = [] := List.length_eq_zero_iff.1 h0
      have hm0' : ms' = [] := List.length_eq_zero_iff.1 (by omega)
      subst hm0 hm0'
      have := hp.mem_iff (a := o')
      simp at this
      omega
    · have hj : ∃ j, j < ms.length + 1 ∧ i ≠ j := by
        by_cases hi0 : i = 0
        · exact ⟨1, by omega, by omega⟩
        · exact ⟨0, by omega, hi0⟩
      obtain ⟨j, hj, hij⟩ := hj
      have h1 : (nthL (builtF o' ms') j).2.2.2 = o' := built_owner (by omega)
      rw [← e, nthL_set hil, if_neg hij, built_owner hj] at h1
      omega
end
end Go.Proofs.Ythmcdlieglollaa
