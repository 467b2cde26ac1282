/- Items: what Narrow and Rename tell, in plain words. -/
import Derived.Test.YtepgpejdnlejnaaDoorItPE
namespace Go.Proofs.YtepgpejdnlejnaaDoor
open Go.RowKit
set_option linter.unusedVariables false
set_option linter.unusedSimpArgs false
set_option linter.unusedSectionVars false
set_option maxRecDepth 20000

def uniqB (l : List It) : Bool := (List.range l.length).all fun i => decide (idxF l (nthT l i).1 = i)
theorem uniqB_yes {l : List It} (h : ∀ i : Nat, i < l.length → idxF l (nthT l i).1 = i) : uniqB l = true := by
  unfold uniqB
  simpa using h
theorem uniqB_no {l : List It} {k : Nat} (hk : k < l.length) (h : ¬ idxF l (nthT l k).1 = k) : uniqB l = false := by
  unfold uniqB
  rw [List.all_eq_false]
  exact ⟨k, List.mem_range.2 hk, by simpa using h⟩
theorem uniqB_at {l : List It} (h : uniqB l = true) (i : Nat) (hi : i < l.length) : idxF l (nthT l i).1 = i := by
  unfold uniqB at h
  rw [List.all_eq_true] at h
  exact of_decide_eq_true (h i (List.mem_range.2 hi))
theorem pigeon : ∀ (n : Nat) (xs : List Nat), xs.Nodup → (∀ x ∈ xs, x < n) → xs.length ≤ n
  | 0, xs, _, h => by
    cases xs with
    | nil => simp
    | cons x xs => exact absurd (h x (by simp)) (by omega)
  | n + 1, xs, hd, h => by
    by_cases hm : n ∈ xs
    · have h1 := pigeon n (xs.erase n) (hd.erase n) (fun x hx => by
        rw [hd.mem_erase_iff] at hx
        have := h x hx.2
        have := hx.1
        omega)
      rw [List.length_erase_of_mem hm] at h1
      omega
    · have h1 := pigeon n xs hd (fun x hx => by
        have := h x hx
        by_cases hxn : x = n
        · subst hxn; exact absurd hx hm
        · omega)
      omega
theorem idxF_name {l : List It} {s : ByteArray} (h : 0 ≤ idxF l s) : (nthT l (idxF l s).toNat).1 = s := by
  induction l with
  | nil => simp [idxF] at h
  | cons x l ih =>
    simp only [idxF] at h ⊢
    by_cases hx : x.1 = s
    · rw [if_pos hx]; exact hx
    · rw [if_neg hx] at h ⊢
      split at h
      · omega
      · rename_i h2
        rw [if_neg h2]
        have h3 : 0 ≤ idxF l s := by omega
        have := ih h3
        rw [show (idxF l s + 1).toNat = (idxF l s).toNat + 1 from by omega]
        exact this
def narrowed (l : List It) (names : List ByteArray) : List It := names.map fun n => nthT l (idxF l n).toNat
def narrowF (l : List It) (names : List ByteArray) : List It × Int :=
  if itemsB l = true then (if ∀ n ∈ names, 0 ≤ idxF l n then (if uniqB (narrowed l names) = true then (if names.length = 0 then ([], 11) else (narrowed l names, 0)) else ([], 6)) else ([], 5)) else ([], 1)
theorem narrowed_take {l : List It} {names : List ByteArray} {k : Nat} (hk : k < names.length) : narrowed l (names.take (k + 1)) = narrowed l (names.take k) ++ [nthT l (idxF l (nthS names k)).toNat] := by
  unfold narrowed
  rw [List.take_add_one, nthS_some hk]
  simp
theorem narrowed_len (l : List It) (names : List ByteArray) : (narrowed l names).length = names.length := by simp [narrowed]
theorem narrowed_at {l : List It} {names : List ByteArray} {k : Nat} (hk : k < names.length) : nthT (narrowed l names) k = nthT l (idxF l (nthS names k)).toNat := by
  unfold narrowed
  unfold nthT nthS
  simp [hk]
theorem items_good {l : List It} (h : itemsB l = true) (i : Nat) (hi : i < l.length) : goodT l i := by
  unfold itemsB knownB at h
  rw [Bool.and_eq_true, Bool.and_eq_true, List.all_eq_true] at h
  exact of_decide_eq_true (h.2.1 i (List.mem_range.2 hi))
theorem items_of {l : List It} (h0 : 0 < l.length) (h8 : l.length ≤ 8) (hv : ∀ i, i < l.length → itemB (nthT l i) = true) : itemsB l = uniqB l := by
  cases hu : uniqB l with
  | true =>
    unfold itemsB
    rw [knownB_yes (fun i hi => ⟨hv i hi, uniqB_at hu i hi⟩), decide_eq_true h0, decide_eq_true h8]
    rfl
  | false =>
    unfold uniqB at hu
    rw [List.all_eq_false] at hu
    obtain ⟨i, hi, hn⟩ := hu
    unfold itemsB
    rw [knownB_no (List.mem_range.1 hi) (fun h => hn (decide_eq_true h.2)), Bool.and_false]
theorem narrowed_items {l : List It} {names : List ByteArray} (hl : itemsB l = true) (ha : ∀ n ∈ names, 0 ≤ idxF l n) (h0 : 0 < names.length) : itemsB (narrowed l names) = uniqB (narrowed l names) := by
  have hv : ∀ i, i < (narrowed l names).length → itemB (nthT (narrowed l names) i) = true := fun i hi => by
    rw [narrowed_len] at hi
    rw [narrowed_at hi]
    obtain ⟨q, e, hq⟩ := idxF_lt (ha _ (nthS_mem hi))
    rw [e]
    exact (items_good hl q hq).1
  by_cases h8 : (narrowed l names).length ≤ 8
  · exact items_of (by rw [narrowed_len]; exact h0) h8 hv
  · have hn : itemsB (narrowed l names) = false := by
      unfold itemsB knownB
      rw [show decide ((narrowed l names).length ≤ 8) = false from decide_eq_false h8, Bool.and_false, Bool.and_false]
    rw [hn]
    symm
    cases hu : uniqB (narrowed l names) with
    | false => rfl
    | true =>
      exfalso
      apply h8
      have hl8 := items_le8 hl
      have hnd : names.Nodup := by
        rw [List.Nodup, List.pairwise_iff_getElem]
        intro i j hi hj hij e
        have h1 := uniqB_at hu j (by rw [narrowed_len]; exact hj)
        rw [narrowed_at hj, idxF_name (ha _ (nthS_mem hj))] at h1
        have h2 := uniqB_at hu i (by rw [narrowed_len]; exact hi)
        rw [narrowed_at hi, idxF_name (ha _ (nthS_mem hi))] at h2
        have e2 : nthS names i = nthS names j := by
          unfold nthS
          simp only [List.getD_eq_getElem?_getD, List.getElem?_eq_getElem hi, List.getElem?_eq_getElem hj]
          exact e
        rw [e2, h1] at h2
        omega
      have hnd2 : (names.map fun n => (idxF l n).toNat).Nodup := by
        rw [List.Nodup, List.pairwise_map]
        refine List.Pairwise.imp_of_mem ?_ hnd
        intro a b ha1 hb1 hab e
        apply hab
        rw [← idxF_name (ha a ha1), ← idxF_name (ha b hb1), e]
      have := pigeon l.length _ hnd2 (fun x hx => by
        obtain ⟨n, hn, rfl⟩ := List.mem_map.1 hx
        have := (idxF_ge l n).2
        have := ha n hn
        omega)
      rw [List.length_map] at this
      rw [narrowed_len]
      omega
/-- what Narrow gives is fitted by what Pick gives -/
theorem narrow_fits {l : List It} {r : List Vl} {names : List ByteArray} (he : (narrowF l names).2 = 0) (hf : fitsB l r = true) :
    narrowF l names = (narrowed l names, 0) ∧ pickF l r names = (picked l r names, 0) ∧ fitsB (narrowed l names) (picked l r names) = true := by
  have hi := (fits_len hf).2
  unfold narrowF at he ⊢
  rw [if_pos hi] at he ⊢
  by_cases ha : ∀ n ∈ names, 0 ≤ idxF l n
  · rw [if_pos ha] at he ⊢
    by_cases hu : uniqB (narrowed l names) = true
    · rw [if_pos hu] at he ⊢
      by_cases h0 : names.length = 0
      · rw [if_pos h0] at he
        simp at he
      · rw [if_neg h0]
        have hii := narrowed_items hi ha (by omega)
        rw [hu] at hii
        have h8 := items_le8 hii
        rw [narrowed_len] at h8
        refine ⟨rfl, ?_, ?_⟩
        · unfold pickF
          rw [if_pos hf, if_pos ha, if_pos h8]
        · rw [fitsB_iff]
          refine ⟨hii, by rw [narrowed_len, picked_len], fun i hi2 => ?_⟩
          rw [narrowed_len] at hi2
          rw [narrowed_at hi2]
          obtain ⟨q, e, hq⟩ := idxF_lt (ha _ (nthS_mem hi2))
          have : nthV (picked l r names) i = nthV r (idxF l (nthS names i)).toNat := by
            unfold picked nthV nthS
            simp [hi2]
          rw [this, e]
          exact (fitsB_iff.1 hf).2.2 q hq
    · rw [if_neg hu] at he
      simp at he
  · rw [if_neg ha] at he
    simp at he
def renK (l : List It) (names : List ByteArray) : Nat → List It
  | 0 => l
  | k + 1 => (renK l names k).set k (nthS names k, (nthT l k).2)
theorem renK_len (l : List It) (names : List ByteArray) : ∀ k, (renK l names k).length = l.length
  | 0 => rfl
  | k + 1 => by simp [renK, renK_len l names k]
theorem renK_at (l : List It) (names : List ByteArray) (i : Nat) (hi : i < l.length) : ∀ k, nthT (renK l names k) i = if i < k then (nthS names i, (nthT l i).2) else nthT l i
  | 0 => by simp [renK]
  | k + 1 => by
    have ih := renK_at l names i hi k
    simp only [renK]
    unfold nthT at ih ⊢
    rw [List.getD_eq_getElem?_getD, List.getElem?_set]
    by_cases hik : k = i
    · subst hik
      rw [if_pos rfl, if_pos (by rw [renK_len]; exact hi), if_pos (by omega)]
      rfl
    · rw [if_neg hik, ← List.getD_eq_getElem?_getD, ih]
      by_cases h1 : i < k
      · rw [if_pos h1, if_pos (by omega)]
      · rw [if_neg h1, if_neg (by omega)]
def renameF (l : List It) (names : List ByteArray) : List It × Int :=
  if itemsB l = true then (if names.length = l.length then (if ∀ n ∈ names, nameF n = true then (if uniqB (renK l names l.length) = true then (renK l names l.length, 0) else ([], 6)) else ([], 1)) else ([], 11)) else ([], 1)
theorem renamed_items {l : List It} {names : List ByteArray} (hl : itemsB l = true) (hn : names.length = l.length) (ha : ∀ n ∈ names, nameF n = true) : itemsB (renK l names l.length) = uniqB (renK l names l.length) := by
  refine items_of (by rw [renK_len]; exact items_pos hl) (by rw [renK_len]; exact items_le8 hl) fun i hi => ?_
  rw [renK_len] at hi
  rw [renK_at l names i hi, if_pos hi]
  have h1 := (items_good hl i hi).1
  unfold itemB at h1 ⊢
  rw [Bool.and_eq_true] at h1 ⊢
  exact ⟨ha _ (nthS_mem (by omega)), h1.2⟩
end Go.Proofs.YtepgpejdnlejnaaDoor
