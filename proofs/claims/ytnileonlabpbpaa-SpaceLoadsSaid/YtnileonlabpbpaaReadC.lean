/- The cells of a page that is valid; Fill of them is the page. -/
import Derived.Test.YtnileonlabpbpaaReadB
import Derived.Test.YtnileonlabpbpaaFills
namespace Go.Proofs.Ytnileonlabpbpaa
open Go.RowKit
set_option linter.unusedVariables false
set_option maxRecDepth 20000

theorem nthC_append (l : List Cel) (c : Cel) (i : Nat) (h : i ≤ l.length) : nthC (l ++ [c]) i = if i < l.length then nthC l i else c := by
  unfold nthC
  rw [List.getD_eq_getElem?_getD, List.getD_eq_getElem?_getD]
  by_cases hi : i < l.length
  · rw [if_pos hi, List.getElem?_append_left hi]
  · obtain rfl : i = l.length := by omega
    rw [if_neg (by omega), List.getElem?_append_right (by omega)]
    simp
theorem nthC_mem (l : List Cel) (i : Nat) (h : i < l.length) : nthC l i ∈ l := by
  unfold nthC
  rw [List.getD_eq_getElem?_getD, List.getElem?_eq_getElem h]
  exact List.getElem_mem h
/-- the cells among the first k slots -/
structure UsedI (p : ByteArray) (k : Nat) : Prop where
  line : ∀ i, i < (usedL p k).length → 1 ≤ (nthC (usedL p k) i).1 ∧ (nthC (usedL p k) i).1 ≤ k ∧ 0 < (nthC (usedL p k) i).2.size
  up : ∀ i, 0 < i → i < (usedL p k).length → (nthC (usedL p k) (i - 1)).1 < (nthC (usedL p k) i).1
  sum : ∀ g : Nat → Cel, (∀ i, i < (usedL p k).length → g i = nthC (usedL p k) i) → bytesF g (usedL p k).length + topF p k = p.size
theorem bytesF_congr {f g : Nat → Cel} : ∀ n, (∀ i, i < n → f i = g i) → bytesF f n = bytesF g n := by
  intro n
  induction n with
  | zero => intro _; rfl
  | succ n ih => intro h; simp only [bytesF, ih (fun i hi => h i (by omega)), h n (by omega)]
theorem usedI {p : ByteArray} (hv : ValidR p) : ∀ k, k ≤ twoF p 0 → UsedI p k := by
  intro k
  induction k with
  | zero => exact fun _ => ⟨fun i hi => by simp [usedL] at hi, fun i _ hi => by simp [usedL] at hi, fun g _ => by simp [usedL, bytesF, topF]⟩
  | succ k ih =>
    intro hk
    have I := ih (by omega)
    have ht := topF_succ hv.1.2.2 hv.2.1 k (by omega)
    by_cases h0 : twoF p (4 + 4 * k) = 0
    · have e : usedL p (k + 1) = usedL p k := by simp [usedL, h0]
      rw [h0] at ht
      exact ⟨fun i hi => by rw [e] at hi ⊢; have := I.line i hi; omega, fun i h1 hi => by rw [e] at hi ⊢; exact I.up i h1 hi, fun g hg => by rw [e] at hg ⊢; have := I.sum g hg; omega⟩
    · have e : usedL p (k + 1) = usedL p k ++ [cellS p k] := by simp [usedL, h0]
      have hl := cellS_len hv k (by omega)
      have hc : (cellS p k).1 = (k : Int) + 1 := rfl
      have hlen : (usedL p k ++ [cellS p k]).length = (usedL p k).length + 1 := by simp
      refine ⟨fun i hi => ?_, fun i h1 hi => ?_, fun g hg => ?_⟩
      · rw [e, hlen] at hi
        rw [e, nthC_append _ _ _ (by omega)]
        split
        · rename_i h; have := I.line i h; omega
        · omega
      · rw [e, hlen] at hi
        rw [e, nthC_append _ _ _ (by omega), nthC_append _ _ _ (by omega), if_pos (show i - 1 < (usedL p k).length by omega)]
        split
        · rename_i h; exact I.up i h1 h
        · have := I.line (i - 1) (by omega); omega
      · rw [e, hlen] at hg ⊢
        have h1 := I.sum g (fun i hi => by rw [hg i (by omega), nthC_append _ _ _ (by omega), if_pos hi])
        have h2 := hg (usedL p k).length (by omega)
        rw [nthC_append _ _ _ (by omega), if_neg (by omega)] at h2
        have h3 : bytesF g ((usedL p k).length + 1) = bytesF g (usedL p k).length + (g (usedL p k).length).2.size := rfl
        rw [h3, h2, hl]
        omega

/-- of a valid page: how many cells, and what they are -/
noncomputable def cnt (p : ByteArray) : Nat := (usedL p (twoF p 0)).length
noncomputable def cel (p : ByteArray) : Nat → Cel := nthC (usedL p (twoF p 0))
theorem cel_good {p : ByteArray} (hv : ValidR p) : ¬ AnyBad (cel p) (cnt p) := by
  have I := usedI hv _ (Nat.le_refl _)
  rintro ⟨i, hi, hb⟩
  have h1 := I.line i hi
  have h2 := hv.1.2.1
  unfold BadF at hb
  rcases hb with h | h | ⟨h, h'⟩ | h
  · unfold cel at h; omega
  · unfold cel at h; omega
  · have := I.up i h hi; unfold cel at h'; omega
  · unfold cel at h; omega
theorem cnt_le {p : ByteArray} (hv : ValidR p) : cnt p ≤ 200 := Nat.le_trans (usedL_length p _) hv.1.2.1
theorem cel_last {p : ByteArray} (hv : ValidR p) : lastF (cel p) (cnt p) = twoF p 0 := by
  unfold lastF cnt cel
  cases hm : twoF p 0 with
  | zero => simp [usedL]
  | succ m =>
    have h1 := used_last hv m hm
    have e : usedL p (m + 1) = usedL p m ++ [cellS p m] := by simp [usedL, h1]
    rw [e]
    have hlen : (usedL p m ++ [cellS p m]).length = (usedL p m).length + 1 := by simp
    rw [hlen, if_neg (by omega), Nat.add_sub_cancel, nthC_append _ _ _ (Nat.le_refl _), if_neg (by omega)]
    rfl
theorem cel_sum {p : ByteArray} (hv : ValidR p) : bytesF (cel p) (cnt p) + topF p (twoF p 0) = p.size := (usedI hv _ (Nat.le_refl _)).sum _ (fun i hi => rfl)
theorem cel_room {p : ByteArray} (hv : ValidR p) : roomF p.size (cel p) (cnt p) = topF p (twoF p 0) - 2 - 4 * twoF p 0 := by
  have h1 := cel_last hv
  have h2 := cel_sum hv
  unfold roomF
  rw [h1]
  omega
/-- **Fill of the cells is the page.** -/
theorem fill_cells {p : ByteArray} (hv : ValidR p) : fillRes p.size (cnt p) (cel p) = (p, 0) := by
  have hg := cel_good hv
  have hs := hv.1.1
  have hr := cel_room hv
  have ht := topF_in p hv.1.2.2 _ hv.2.1
  have hr' : ¬ roomF p.size (cel p) (cnt p) < 0 := by omega
  have hf := fit_of_good hg (cnt_le hv) hs hr'
  obtain ⟨b1, b2, b3⟩ := built_page p.size (cnt p) (cel p) hg hf hs _ rfl
  have hu : usedL p (twoF p 0) = (List.range (cnt p)).map (cel p) := by
    apply List.ext_getElem
    · simp [cnt]
    · intro i h1 h2
      simp only [List.getElem_map, List.getElem_range, cel, nthC, List.getD_eq_getElem?_getD, List.getElem?_eq_getElem h1, Option.getD_some]
  have := page_unique b2 hv b1 (b3.trans hu.symm)
  simp only [fillRes, hg, hr', hs, if_false, Int.toNat_natCast]
  simp [this]
end Go.Proofs.Ytnileonlabpbpaa
