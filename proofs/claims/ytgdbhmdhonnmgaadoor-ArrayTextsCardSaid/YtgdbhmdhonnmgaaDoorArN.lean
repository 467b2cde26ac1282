/- Arrays, the plain part: where the keys stand, what is left when a key is taken out, no two neighbours below half. -/
import Derived.Test.YtgdbhmdhonnmgaaDoorArM
namespace Go.Proofs.YtgdbhmdhonnmgaaDoor
set_option linter.unusedVariables false
set_option maxRecDepth 20000
set_option linter.unusedSimpArgs false

/-- the block and the place of an index -/
def locQ : List (List Int) → Nat → Nat × Nat
  | [], _ => (0, 0)
  | l :: r, j => if j < l.length then (0, j) else ((locQ r (j - l.length)).1 + 1, (locQ r (j - l.length)).2)
theorem nthA_zero (l : List Int) (r : List (List Int)) : nthA (l :: r) 0 = l := rfl
theorem nthA_succ (l : List Int) (r : List (List Int)) (i : Nat) : nthA (l :: r) (i + 1) = nthA r i := by simp [nthA]
theorem locQ_at : ∀ (LL : List (List Int)) (i k : Nat), i < LL.length → k < (nthA LL i).length → locQ LL ((LL.take i).flatten.length + k) = (i, k)
  | [], i, k, h, _ => by simp at h
  | l :: r, 0, k, h, hk => by
    rw [nthA_zero] at hk
    simp [locQ, hk]
  | l :: r, i + 1, k, h, hk => by
    rw [nthA_succ] at hk
    have h1 := locQ_at r i k (by simpa using h) hk
    have e : ((l :: r).take (i + 1)).flatten.length + k = l.length + ((r.take i).flatten.length + k) := by
      rw [List.take_succ_cons, List.flatten_cons, List.length_append]; omega
    rw [e]
    unfold locQ
    rw [if_neg (by omega), Nat.add_sub_cancel_left, h1]
theorem nthI_flat : ∀ (LL : List (List Int)) (i k : Nat), i < LL.length → k < (nthA LL i).length → nthI LL.flatten ((LL.take i).flatten.length + k) = nthI (nthA LL i) k := by
  intro LL i k h hk
  have e : LL.flatten = (LL.take i).flatten ++ (nthA LL i ++ (LL.drop (i + 1)).flatten) := by
    conv => lhs; rw [split_at h]
    simp
  conv => lhs; rw [e]
  unfold nthI
  rw [List.getD_eq_getElem?_getD, List.getElem?_append_right (by omega), Nat.add_sub_cancel_left, List.getElem?_append_left hk, ← List.getD_eq_getElem?_getD]
theorem locQ_lt : ∀ (LL : List (List Int)) (j : Nat), j < LL.flatten.length → (locQ LL j).1 < LL.length ∧ (locQ LL j).2 < (nthA LL (locQ LL j).1).length ∧ (LL.take (locQ LL j).1).flatten.length + (locQ LL j).2 = j
  | [], j, h => by simp at h
  | l :: r, j, h => by
    unfold locQ
    by_cases h1 : j < l.length
    · rw [if_pos h1]
      exact ⟨by simp, by simpa [nthA_zero] using h1, by simp⟩
    · rw [if_neg h1]
      rw [List.flatten_cons, List.length_append] at h
      obtain ⟨a, b, c⟩ := locQ_lt r (j - l.length) (by omega)
      refine ⟨by simp; omega, by rw [nthA_succ]; exact b, ?_⟩
      rw [List.take_succ_cons, List.flatten_cons, List.length_append]
      omega
theorem spot_in {LL : List (List Int)} {index q p : Nat} (h : Spot LL index q p) (hi : index < LL.flatten.length) : (q, p) = locQ LL index := by
  obtain ⟨h1, h2, h3⟩ := h
  rcases h3 with h3 | ⟨h3, h4⟩
  · rw [← h2, locQ_at LL q p h1 h3]
  · exfalso
    have e : LL.flatten.length = (LL.take q).flatten.length + ((nthA LL q).length + (LL.drop (q + 1)).flatten.length) := by
      conv => lhs; rw [split_at h1]
      simp only [List.flatten_append, List.flatten_cons, List.length_append]
    rw [List.drop_eq_nil_of_le (by omega)] at e
    simp only [List.flatten_nil, List.length_nil] at e
    omega
theorem spot_end {LL : List (List Int)} (hne : LL ≠ []) : Spot LL LL.flatten.length (LL.length - 1) (nthA LL (LL.length - 1)).length := by
  have h0 : 0 < LL.length := List.length_pos_iff.2 hne
  refine ⟨by omega, ?_, .inr ⟨by omega, rfl⟩⟩
  have e : LL.flatten.length = (LL.take (LL.length - 1)).flatten.length + ((nthA LL (LL.length - 1)).length + (LL.drop (LL.length - 1 + 1)).flatten.length) := by
    conv => lhs; rw [split_at (show LL.length - 1 < LL.length by omega)]
    simp only [List.flatten_append, List.flatten_cons, List.length_append]
  rw [List.drop_eq_nil_of_le (by omega)] at e
  simp only [List.flatten_nil, List.length_nil] at e
  omega
theorem spot_last {LL : List (List Int)} {q p : Nat} (h : Spot LL LL.flatten.length q p) (hok : ∀ l ∈ LL, l ≠ []) : q = LL.length - 1 ∧ p = (nthA LL (LL.length - 1)).length := by
  obtain ⟨h1, h2, h3⟩ := h
  have e : LL.flatten.length = (LL.take q).flatten.length + ((nthA LL q).length + (LL.drop (q + 1)).flatten.length) := by
    conv => lhs; rw [split_at h1]
    simp only [List.flatten_append, List.flatten_cons, List.length_append]
  rcases h3 with h3 | ⟨h3, h4⟩
  · omega
  · obtain rfl : q = LL.length - 1 := by omega
    exact ⟨rfl, h4⟩

/-- what is left when the key at place p of block q is taken out -/
def takeAt (b : Int) (LL : List (List Int)) (q p : Nat) : List (List Int) :=
  let l := (nthA LL q).eraseIdx p
  if l = [] then LL.take q ++ LL.drop (q + 1)
  else if (b + 1) / 2 ≤ l.length then LL.take q ++ l :: LL.drop (q + 1)
  else if q + 1 < LL.length ∧ ((l.length + (nthA LL (q + 1)).length : Nat) : Int) ≤ b then LL.take q ++ (l ++ nthA LL (q + 1)) :: LL.drop (q + 2)
  else if 0 < q ∧ (((nthA LL (q - 1)).length + l.length : Nat) : Int) ≤ b then LL.take (q - 1) ++ (nthA LL (q - 1) ++ l) :: LL.drop (q + 1)
  else LL.take q ++ l :: LL.drop (q + 1)
section
variable {b : Int} {LL : List (List Int)} {q p : Nat} {l : List Int}
theorem takeAt_nil (h : (nthA LL q).eraseIdx p = []) : takeAt b LL q p = LL.take q ++ LL.drop (q + 1) := if_pos h
theorem takeAt_big (hl : (nthA LL q).eraseIdx p = l) (h : l ≠ []) (h1 : (b + 1) / 2 ≤ l.length) : takeAt b LL q p = LL.take q ++ l :: LL.drop (q + 1) := by
  subst hl; exact (if_neg h).trans (if_pos h1)
theorem takeAt_next (hl : (nthA LL q).eraseIdx p = l) (h : l ≠ []) (h1 : ¬ (b + 1) / 2 ≤ (l.length : Int)) (h2 : q + 1 < LL.length ∧ ((l.length + (nthA LL (q + 1)).length : Nat) : Int) ≤ b) :
    takeAt b LL q p = LL.take q ++ (l ++ nthA LL (q + 1)) :: LL.drop (q + 2) := by
  subst hl; exact (if_neg h).trans ((if_neg h1).trans (if_pos h2))
theorem takeAt_prior (hl : (nthA LL q).eraseIdx p = l) (h : l ≠ []) (h1 : ¬ (b + 1) / 2 ≤ (l.length : Int)) (h2 : ¬ (q + 1 < LL.length ∧ ((l.length + (nthA LL (q + 1)).length : Nat) : Int) ≤ b)) (h3 : 0 < q ∧ (((nthA LL (q - 1)).length + l.length : Nat) : Int) ≤ b) :
    takeAt b LL q p = LL.take (q - 1) ++ (nthA LL (q - 1) ++ l) :: LL.drop (q + 1) := by
  subst hl; exact (if_neg h).trans ((if_neg h1).trans ((if_neg h2).trans (if_pos h3)))
theorem takeAt_lone (hl : (nthA LL q).eraseIdx p = l) (h : l ≠ []) (h1 : ¬ (b + 1) / 2 ≤ (l.length : Int)) (h2 : ¬ (q + 1 < LL.length ∧ ((l.length + (nthA LL (q + 1)).length : Nat) : Int) ≤ b)) (h3 : ¬ (0 < q ∧ (((nthA LL (q - 1)).length + l.length : Nat) : Int) ≤ b)) :
    takeAt b LL q p = LL.take q ++ l :: LL.drop (q + 1) := by
  subst hl; exact (if_neg h).trans ((if_neg h1).trans ((if_neg h2).trans (if_neg h3)))
/-- the five ways -/
theorem takeAt_ways (b : Int) (LL : List (List Int)) (q p : Nat) : ∃ l, (nthA LL q).eraseIdx p = l ∧
    ((l = [] ∧ takeAt b LL q p = LL.take q ++ LL.drop (q + 1)) ∨ (l ≠ [] ∧ takeAt b LL q p = LL.take q ++ l :: LL.drop (q + 1)) ∨
     (l ≠ [] ∧ ¬ (b + 1) / 2 ≤ (l.length : Int) ∧ q + 1 < LL.length ∧ ((l.length + (nthA LL (q + 1)).length : Nat) : Int) ≤ b ∧ takeAt b LL q p = LL.take q ++ (l ++ nthA LL (q + 1)) :: LL.drop (q + 2)) ∨
     (l ≠ [] ∧ ¬ (b + 1) / 2 ≤ (l.length : Int) ∧ 0 < q ∧ (((nthA LL (q - 1)).length + l.length : Nat) : Int) ≤ b ∧ takeAt b LL q p = LL.take (q - 1) ++ (nthA LL (q - 1) ++ l) :: LL.drop (q + 1))) := by
  refine ⟨_, rfl, ?_⟩
  by_cases h : (nthA LL q).eraseIdx p = []
  · exact .inl ⟨h, takeAt_nil h⟩
  · by_cases h1 : (b + 1) / 2 ≤ (((nthA LL q).eraseIdx p).length : Int)
    · exact .inr (.inl ⟨h, takeAt_big rfl h h1⟩)
    · by_cases h2 : q + 1 < LL.length ∧ ((((nthA LL q).eraseIdx p).length + (nthA LL (q + 1)).length : Nat) : Int) ≤ b
      · exact .inr (.inr (.inl ⟨h, h1, h2.1, h2.2, takeAt_next rfl h h1 h2⟩))
      · by_cases h3 : 0 < q ∧ (((nthA LL (q - 1)).length + ((nthA LL q).eraseIdx p).length : Nat) : Int) ≤ b
        · exact .inr (.inr (.inr ⟨h, h1, h3.1, h3.2, takeAt_prior rfl h h1 h2 h3⟩))
        · exact .inr (.inl ⟨h, takeAt_lone rfl h h1 h2 h3⟩)
end
theorem takeAt_flat {b : Int} {LL : List (List Int)} {q p : Nat} (h1 : q < LL.length) (hp : p < (nthA LL q).length) :
    (takeAt b LL q p).flatten = LL.flatten.eraseIdx ((LL.take q).flatten.length + p) := by
  have e : LL.flatten = (LL.take q).flatten ++ (nthA LL q ++ (LL.drop (q + 1)).flatten) := by
    conv => lhs; rw [split_at h1]
    simp
  have e2 : LL.flatten.eraseIdx ((LL.take q).flatten.length + p) = (LL.take q).flatten ++ ((nthA LL q).eraseIdx p ++ (LL.drop (q + 1)).flatten) := by
    conv => lhs; rw [e]
    rw [List.eraseIdx_append_of_length_le (by omega), Nat.add_sub_cancel_left, List.eraseIdx_append_of_lt_length hp]
  rw [e2]
  obtain ⟨l, hl, h⟩ := takeAt_ways b LL q p
  rw [hl]
  rcases h with ⟨h, e⟩ | ⟨h, e⟩ | ⟨h, _, h2, _, e⟩ | ⟨h, _, h2, _, e⟩
  · rw [e, h]; simp
  · rw [e]; simp
  · rw [e, nthA_drop h2]; simp
  · rw [e]
    obtain ⟨j, rfl⟩ : ∃ j, q = j + 1 := ⟨q - 1, by omega⟩
    rw [nthA_take (show j < LL.length by omega)]
    simp
theorem takeAt_ok {b : Int} {LL : List (List Int)} {q p : Nat} (h1 : q < LL.length) (hL : BlocksOk b LL) : BlocksOk b (takeAt b LL q p) := by
  have hq := hL _ (nthA_mem h1)
  obtain ⟨l, hl, h⟩ := takeAt_ways b LL q p
  have hlen : (l.length : Int) ≤ b := by
    rw [← hl]; have := List.length_eraseIdx_le (nthA LL q) p; omega
  rcases h with ⟨h, e⟩ | ⟨h, e⟩ | ⟨h, _, h2, h3, e⟩ | ⟨h, _, h2, h3, e⟩
  all_goals
    rw [e]
    intro x hx
    simp only [List.mem_append, List.mem_cons] at hx
  · rcases hx with hx | hx
    · exact hL x (List.mem_of_mem_take hx)
    · exact hL x (List.mem_of_mem_drop hx)
  · rcases hx with hx | rfl | hx
    · exact hL x (List.mem_of_mem_take hx)
    · exact ⟨h, hlen⟩
    · exact hL x (List.mem_of_mem_drop hx)
  · rcases hx with hx | rfl | hx
    · exact hL x (List.mem_of_mem_take hx)
    · exact ⟨by simp [h], by rw [List.length_append]; omega⟩
    · exact hL x (List.mem_of_mem_drop hx)
  · rcases hx with hx | rfl | hx
    · exact hL x (List.mem_of_mem_take hx)
    · exact ⟨by simp [h], by rw [List.length_append]; omega⟩
    · exact hL x (List.mem_of_mem_drop hx)
end Go.Proofs.YtgdbhmdhonnmgaaDoor
