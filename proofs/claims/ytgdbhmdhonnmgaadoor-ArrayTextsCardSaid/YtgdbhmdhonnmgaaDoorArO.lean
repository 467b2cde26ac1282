/- Arrays, the plain part: no two neighbouring blocks below half; how many blocks are others. -/
import Derived.Test.YtgdbhmdhonnmgaaDoorArN
namespace Go.Proofs.YtgdbhmdhonnmgaaDoor
set_option linter.unusedVariables false
set_option maxRecDepth 20000
set_option linter.unusedSimpArgs false

/-- no two neighbours are both below h -/
def HalfC (h : Int) : List (List Int) → Prop
  | [] => True
  | [_] => True
  | l :: m :: r => (h ≤ l.length ∨ h ≤ m.length) ∧ HalfC h (m :: r)
section
variable {h : Int}
theorem HalfC.tail {l : List Int} {B : List (List Int)} (H : HalfC h (l :: B)) : HalfC h B := by
  cases B with
  | nil => trivial
  | cons m r => exact H.2
theorem HalfC.cons {l : List Int} {B : List (List Int)} (hl : h ≤ l.length) (H : HalfC h B) : HalfC h (l :: B) := by
  cases B with
  | nil => trivial
  | cons m r => exact ⟨.inl hl, H⟩
theorem HalfC.mono {l l' : List Int} {B : List (List Int)} (hl : l.length ≤ l'.length) (H : HalfC h (l :: B)) : HalfC h (l' :: B) := by
  cases B with
  | nil => trivial
  | cons m r =>
    refine ⟨?_, H.2⟩
    rcases H.1 with h1 | h1
    · exact .inl (by omega)
    · exact .inr h1
theorem halfC_join : ∀ (A : List (List Int)) (l : List Int) (B : List (List Int)), HalfC h (A ++ l :: B) ↔ HalfC h (A ++ [l]) ∧ HalfC h (l :: B)
  | [], l, B => by simp [HalfC]
  | [a], l, B => by simp [HalfC]
  | a :: c :: r, l, B => by
    have := halfC_join (c :: r) l B
    simp only [List.cons_append, HalfC] at this ⊢
    rw [this, and_assoc]
theorem HalfC.front : ∀ {A : List (List Int)} {l : List Int}, HalfC h (A ++ [l]) → HalfC h A
  | [], l, H => trivial
  | [a], l, H => trivial
  | a :: c :: r, l, H => ⟨H.1, HalfC.front (A := c :: r) H.2⟩
theorem HalfC.snoc : ∀ {A : List (List Int)} {l : List Int}, h ≤ l.length → HalfC h A → HalfC h (A ++ [l])
  | [], l, hl, H => trivial
  | [a], l, hl, H => ⟨.inr hl, trivial⟩
  | a :: c :: r, l, hl, H => ⟨H.1, HalfC.snoc (A := c :: r) hl H.2⟩
theorem HalfC.monoEnd : ∀ {A : List (List Int)} {l l' : List Int}, l.length ≤ l'.length → HalfC h (A ++ [l]) → HalfC h (A ++ [l'])
  | [], l, l', hl, H => trivial
  | [a], l, l', hl, H => ⟨by rcases H.1 with h1 | h1; exact .inl h1; exact .inr (by omega), trivial⟩
  | a :: c :: r, l, l', hl, H => ⟨H.1, HalfC.monoEnd (A := c :: r) hl H.2⟩
theorem HalfC.small : ∀ {A : List (List Int)}, (∀ l ∈ A, h ≤ l.length) → HalfC h A
  | [], H => trivial
  | a :: r, H => HalfC.cons (H a (by simp)) (HalfC.small fun l hl => H l (by simp [hl]))
/-- a neighbour is small, so this one is not -/
theorem HalfC.last_big {A : List (List Int)} {a l : List Int} {B : List (List Int)} (H : HalfC h ((A ++ [a]) ++ l :: B)) (hl : ¬ h ≤ l.length) : h ≤ a.length := by
  rw [List.append_assoc] at H
  have := ((halfC_join A a (l :: B)).1 (by simpa using H)).2
  rcases this.1 with h1 | h1
  · exact h1
  · exact absurd h1 hl
theorem HalfC.app {A B : List (List Int)} (hA : HalfC h A) (hB : HalfC h B) (hj : ∀ A' a, A = A' ++ [a] → h ≤ a.length) : HalfC h (A ++ B) := by
  cases B with
  | nil => simpa using hA
  | cons m r =>
    rw [halfC_join]
    refine ⟨?_, hB⟩
    rcases List.eq_nil_or_concat A with rfl | ⟨A', a, rfl⟩
    · trivial
    · have := hj A' a (by simp)
      rw [List.concat_eq_append] at hA ⊢
      rw [List.append_assoc, List.singleton_append, halfC_join]
      exact ⟨hA, this |> fun t => ⟨.inl t, trivial⟩⟩
end
theorem halfC_get {h : Int} {LL : List (List Int)} (H : HalfC h LL) : ∀ i, i + 1 < LL.length → h ≤ (nthA LL i).length ∨ h ≤ (nthA LL (i + 1)).length := by
  intro i hi
  have e : LL = LL.take i ++ nthA LL i :: (nthA LL (i + 1) :: LL.drop (i + 2)) := by
    rw [← nthA_drop hi, ← nthA_drop (by omega), List.take_append_drop]
  rw [e] at H
  exact ((halfC_join _ _ _).1 H).2.1

theorem half_put {b : Int} {LL : List (List Int)} {index q p : Nat} {k : Int} (hs : Spot LL index q p) (hb : roomB b = true) (hL : BlocksOk b LL) (H : HalfC (b / 2) LL) : HalfC (b / 2) (putAt b LL q p k) := by
  obtain ⟨h1, h2, h3⟩ := hs
  have hb := roomB_t hb
  have hq := hL _ (nthA_mem h1)
  have hl : (insI (nthA LL q) p k).length = (nthA LL q).length + 1 := insI_length (by omega)
  rw [split_at h1, halfC_join] at H
  unfold putAt splitF
  split
  · rw [List.append_assoc, List.singleton_append, halfC_join]
    exact ⟨H.1.monoEnd (by omega), H.2.mono (by omega)⟩
  · rename_i hn
    rw [List.append_assoc, List.cons_append, List.singleton_append, halfC_join]
    have x1 : b / 2 ≤ ((insI (nthA LL q) p k).take ((b + 2) / 2).toNat).length := by rw [List.length_take]; omega
    have x2 : b / 2 ≤ ((insI (nthA LL q) p k).drop ((b + 2) / 2).toNat).length := by rw [List.length_drop]; omega
    exact ⟨H.1.front.snoc x1, (H.2.tail.cons x2).cons x1⟩
theorem half_take {b : Int} {LL : List (List Int)} {q p : Nat} (h1 : q < LL.length) (hp : p < (nthA LL q).length) (hb : roomB b = true) (hL : BlocksOk b LL) (H : HalfC (b / 2) LL) : HalfC (b / 2) (takeAt b LL q p) := by
  have hb := roomB_t hb
  have hq := hL _ (nthA_mem h1)
  have he : ((nthA LL q).eraseIdx p).length + 1 = (nthA LL q).length := by rw [List.length_eraseIdx_of_lt hp]; omega
  have H0 := H
  rw [split_at h1, halfC_join] at H
  have hA := H.1.front
  have hB := H.2.tail
  obtain ⟨l, hl⟩ : ∃ l, (nthA LL q).eraseIdx p = l := ⟨_, rfl⟩
  rw [hl] at he
  by_cases h : l = []
  · rw [takeAt_nil (hl.trans h)]
    subst h
    simp at he
    by_cases hh : b / 2 ≤ 1
    · refine HalfC.small fun x hx => ?_
      have : x ∈ LL := by
        rw [List.mem_append] at hx
        rcases hx with hx | hx
        · exact List.mem_of_mem_take hx
        · exact List.mem_of_mem_drop hx
      have := List.length_pos_iff.2 (hL x this).1
      omega
    · refine HalfC.app hA hB fun A' a e => ?_
      rw [split_at h1, e] at H0
      exact H0.last_big (by omega)
  · by_cases h2 : (b + 1) / 2 ≤ l.length
    · rw [takeAt_big hl h h2, halfC_join]
      exact ⟨hA.snoc (by omega), hB.cons (by omega)⟩
    · by_cases h3 : q + 1 < LL.length ∧ ((l.length + (nthA LL (q + 1)).length : Nat) : Int) ≤ b
      · rw [takeAt_next hl h h2 h3, halfC_join]
        have hm := List.length_pos_iff.2 (hL _ (nthA_mem h3.1)).1
        rw [nthA_drop h3.1] at hB
        exact ⟨H.1.monoEnd (by rw [List.length_append]; omega), hB.mono (by rw [List.length_append]; omega)⟩
      · by_cases h4 : 0 < q ∧ (((nthA LL (q - 1)).length + l.length : Nat) : Int) ≤ b
        · rw [takeAt_prior hl h h2 h3 h4, halfC_join]
          obtain ⟨j, rfl⟩ : ∃ j, q = j + 1 := ⟨q - 1, by omega⟩
          have hm := List.length_pos_iff.2 (hL _ (nthA_mem (show j < LL.length by omega))).1
          rw [nthA_take (show j < LL.length by omega)] at hA
          exact ⟨hA.monoEnd (by rw [List.length_append]; simp), H.2.mono (by rw [List.length_append]; simp; omega)⟩
        · rw [takeAt_lone hl h h2 h3 h4, halfC_join]
          by_cases h5 : b / 2 ≤ l.length
          · exact ⟨hA.snoc h5, hB.cons h5⟩
          · constructor
            · rcases List.eq_nil_or_concat (LL.take q) with e | ⟨A', a, e⟩
              · rw [e]; trivial
              · have hq0 : 0 < q := by
                  rcases Nat.eq_zero_or_pos q with h0 | h0
                  · rw [h0] at e; simp at e
                  · exact h0
                obtain ⟨j, rfl⟩ : ∃ j, q = j + 1 := ⟨q - 1, by omega⟩
                rw [nthA_take (show j < LL.length by omega)] at hA ⊢
                rw [List.append_assoc, List.singleton_append, halfC_join]
                refine ⟨hA, .inl ?_, trivial⟩
                have : ¬ (((nthA LL j).length + l.length : Nat) : Int) ≤ b := fun h => h4 ⟨by omega, by simpa using h⟩
                omega
            · by_cases h6 : q + 1 < LL.length
              · rw [nthA_drop h6] at hB ⊢
                refine ⟨.inr ?_, hB⟩
                have : ¬ ((l.length + (nthA LL (q + 1)).length : Nat) : Int) ≤ b := fun h => h3 ⟨h6, h⟩
                omega
              · rw [List.drop_eq_nil_of_le (by omega)]; trivial

/-- how many blocks of a list are none of another one -/
def apartN (X Y : List (List Int)) : Nat := (X.filter fun x => decide (x ∉ Y)).length
theorem apartN_append (A B Y : List (List Int)) : apartN (A ++ B) Y = apartN A Y + apartN B Y := by simp [apartN]
theorem apartN_sub (A Y : List (List Int)) (h : ∀ x ∈ A, x ∈ Y) : apartN A Y = 0 := by
  unfold apartN
  rw [List.length_eq_zero_iff, List.filter_eq_nil_iff]
  intro x hx
  simp [h x hx]
theorem apartN_le (A Y : List (List Int)) : apartN A Y ≤ A.length := List.length_filter_le _ _
theorem apart_put (b : Int) (LL : List (List Int)) (q p : Nat) (k : Int) : apartN (putAt b LL q p k) LL ≤ 2 := by
  unfold putAt
  rw [apartN_append, apartN_append, apartN_sub _ _ (fun x hx => List.mem_of_mem_take hx), apartN_sub _ _ (fun x hx => List.mem_of_mem_drop hx)]
  have h1 := apartN_le (splitF b (insI (nthA LL q) p k)) LL
  have h2 : (splitF b (insI (nthA LL q) p k)).length ≤ 2 := by unfold splitF; split <;> simp
  omega
theorem apart_take (b : Int) (LL : List (List Int)) (q p : Nat) : apartN (takeAt b LL q p) LL ≤ 2 := by
  obtain ⟨l, hl, h⟩ := takeAt_ways b LL q p
  have one : ∀ (i j : Nat) (m : List Int), apartN (LL.take i ++ m :: LL.drop j) LL ≤ 2 := fun i j m => by
    rw [show LL.take i ++ m :: LL.drop j = LL.take i ++ ([m] ++ LL.drop j) from rfl, apartN_append, apartN_append, apartN_sub _ _ (fun x hx => List.mem_of_mem_take hx), apartN_sub _ _ (fun x hx => List.mem_of_mem_drop hx)]
    have := apartN_le [m] LL
    simp at this
    omega
  rcases h with ⟨h, e⟩ | ⟨h, e⟩ | ⟨h, _, h2, _, e⟩ | ⟨h, _, h2, _, e⟩
  · rw [e, apartN_append, apartN_sub _ _ (fun x hx => List.mem_of_mem_take hx), apartN_sub _ _ (fun x hx => List.mem_of_mem_drop hx)]; omega
  all_goals rw [e]; exact one _ _ _
end Go.Proofs.YtgdbhmdhonnmgaaDoor
