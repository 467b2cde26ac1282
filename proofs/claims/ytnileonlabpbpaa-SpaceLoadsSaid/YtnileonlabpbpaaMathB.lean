/- What Fill builds is a page, and its cells are the cells. -/
import Derived.Test.YtnileonlabpbpaaMathA
import Derived.Test.YtnileonlabpbpaaPageC
namespace Go.Proofs.Ytnileonlabpbpaa
open Go.RowKit
set_option linter.unusedVariables false
set_option maxRecDepth 20000

/-- byte i of a list of bytes as a number -/
def bl (L : List UInt8) (i : Nat) : Nat := (L.getD i 0).toNat
theorem bt_bl (L : List UInt8) (i : Nat) : bt ⟨L.toArray⟩ i = bl L i := rfl
theorem bl_splice (L : List UInt8) (k : Nat) (cs : List UInt8) (h : k + cs.length ≤ L.length) (j : Nat) : bl (splice L k cs) j = if k ≤ j ∧ j < k + cs.length then bl cs (j - k) else bl L j := by
  unfold bl splice
  rw [List.getD_eq_getElem?_getD, List.getD_eq_getElem?_getD, List.getD_eq_getElem?_getD]
  by_cases h1 : j < k
  · rw [if_neg (by omega), List.getElem?_append_left (by simp; omega), List.getElem?_take_of_lt h1]
  · by_cases h2 : j < k + cs.length
    · rw [if_pos ⟨by omega, h2⟩, List.getElem?_append_right (by simp; omega), List.getElem?_append_left (by simp; omega)]
      have : j - (List.take k L).length = j - k := by simp; omega
      rw [this]
    · rw [if_neg (by omega), List.getElem?_append_right (by simp; omega), List.getElem?_append_right (by simp; omega), List.getElem?_drop]
      have : k + cs.length + (j - (List.take k L).length - cs.length) = j := by simp; omega
      rw [this]
theorem bl_ent0 (v : Nat) (h : v < 65536) : 256 * bl (ent v) 0 + bl (ent v) 1 = v := by
  have h1 : v / 256 < 256 := by omega
  have h2 : v % 256 < 256 := by omega
  simp [bl, ent, hi8, lo8]
  omega

def lineN (f : Nat → Cel) (i : Nat) : Nat := (f i).1.toNat
theorem line_lt {f : Nat → Cel} {n : Nat} (h : ¬ AnyBad f n) : ∀ i j, i < j → j < n → (f i).1 < (f j).1 := by
  intro i j hij hj
  have h1 := lines_up h i (j - 1) (by omega) (by omega)
  have h3 : ¬ BadF f j := fun hb => h ⟨j, hj, hb⟩
  unfold BadF at h3
  omega

/-- the bytes of the buffer behind k cells -/
structure BufI (size n : Nat) (f : Nat → Cel) (k : Nat) (L : List UInt8) : Prop where
  len : L.length = size
  head : 256 * bl L 0 + bl L 1 = (lastF f n).toNat
  offs : ∀ i, i < k → 256 * bl L (4 * lineN f i - 2) + bl L (4 * lineN f i - 1) = size - bytesF f (i + 1)
  lens : ∀ i, i < k → 256 * bl L (4 * lineN f i) + bl L (4 * lineN f i + 1) = (f i).2.size
  data : ∀ i, i < k → ∀ j, j < (f i).2.size → bl L (size - bytesF f (i + 1) + j) = bt (f i).2 j
  zero : ∀ j, 2 ≤ j → j < size - bytesF f k → (∀ i, i < k → ¬ (4 * lineN f i - 2 ≤ j ∧ j < 4 * lineN f i + 2)) → bl L j = 0

theorem bufI (size n : Nat) (f : Nat → Cel) (hg : ¬ AnyBad f n) (hf : Fit size n f) : ∀ k, k ≤ n → BufI size n f k (bufF size n f k) := by
  have z0 := hf.size_ge
  have z1 := hf.size_le
  have hroom := hf.room
  have hl := last_of_good hg
  intro k
  induction k with
  | zero =>
    intro _
    have hen : (ent (lastF f n).toNat).length = 2 := rfl
    have hs : ∀ j, bl (bufF size n f 0) j = if 0 ≤ j ∧ j < 0 + (ent (lastF f n).toNat).length then bl (ent (lastF f n).toNat) (j - 0) else bl (List.replicate size 0) j :=
      fun j => bl_splice _ _ _ (by rw [hen]; simp; omega) j
    have hzr : ∀ j, bl (List.replicate size (0 : UInt8)) j = 0 := by
      intro j
      unfold bl
      rw [List.getD_eq_getElem?_getD, List.getElem?_replicate]
      split <;> rfl
    refine ⟨length_bufF size n f hf 0 (by omega), ?_, fun i hi => by omega, fun i hi => by omega, fun i hi => by omega, fun j h1 h2 _ => ?_⟩
    · rw [hs, hs, if_pos (by rw [hen]; omega), if_pos (by rw [hen]; omega)]
      exact bl_ent0 _ (by omega)
    · rw [hs, if_neg (by rw [hen]; omega)]
      exact hzr j
  | succ k ih =>
    intro hk
    have I := ih (by omega)
    have hgk := good_at hg k (by omega)
    have hlk : lineN f k = (f k).1.toNat := rfl
    have hle := hf.le k (by omega)
    have hb1 : bytesF f (k + 1) = bytesF f k + (f k).2.size := rfl
    have hb2 := bytesF_mono f hk
    have e1 : (ent (size - bytesF f (k + 1))).length = 2 := rfl
    have e2 : (ent (f k).2.size).length = 2 := rfl
    have e3 : (f k).2.data.toList.length = (f k).2.size := by simp
    obtain ⟨A, hA⟩ : ∃ A, splice (bufF size n f k) (4 * (f k).1.toNat - 2) (ent (size - bytesF f (k + 1))) = A := ⟨_, rfl⟩
    obtain ⟨B, hB⟩ : ∃ B, splice A (4 * (f k).1.toNat) (ent (f k).2.size) = B := ⟨_, rfl⟩
    have lA : A.length = size := by rw [← hA, length_splice _ _ _ (by rw [I.len, e1]; omega)]; exact I.len
    have lB : B.length = size := by rw [← hB, length_splice _ _ _ (by rw [lA, e2]; omega)]; exact lA
    have hL : bufF size n f (k + 1) = splice B (size - bytesF f (k + 1)) (f k).2.data.toList := by rw [← hB, ← hA]; rfl
    have sA : ∀ j, bl A j = if 4 * lineN f k - 2 ≤ j ∧ j < 4 * lineN f k - 2 + 2 then bl (ent (size - bytesF f (k + 1))) (j - (4 * lineN f k - 2)) else bl (bufF size n f k) j := fun j => by
      rw [← hA]; exact bl_splice _ _ _ (by rw [I.len, e1]; omega) j
    have sB : ∀ j, bl B j = if 4 * lineN f k ≤ j ∧ j < 4 * lineN f k + 2 then bl (ent (f k).2.size) (j - 4 * lineN f k) else bl A j := fun j => by
      rw [← hB]; exact bl_splice _ _ _ (by rw [lA, e2]; omega) j
    have sL : ∀ j, bl (bufF size n f (k + 1)) j = if size - bytesF f (k + 1) ≤ j ∧ j < size - bytesF f (k + 1) + (f k).2.size then bl (f k).2.data.toList (j - (size - bytesF f (k + 1))) else bl B j := fun j => by
      rw [hL, bl_splice _ _ _ (by rw [lB, e3]; omega) j, e3]
    have far : ∀ j, ¬ (size - bytesF f (k + 1) ≤ j ∧ j < size - bytesF f (k + 1) + (f k).2.size) → ¬ (4 * lineN f k - 2 ≤ j ∧ j < 4 * lineN f k + 2) → bl (bufF size n f (k + 1)) j = bl (bufF size n f k) j := fun j h1 h2 => by
      rw [sL, if_neg h1, sB, if_neg (by omega), sA, if_neg (by omega)]
    have hline : ∀ i, i < k → lineN f i < lineN f k ∧ 1 ≤ lineN f i := fun i hi => by
      have := line_lt hg i k hi (by omega)
      have := good_at hg i (by omega)
      unfold lineN
      omega
    refine ⟨length_bufF size n f hf (k + 1) hk, ?_, fun i hi => ?_, fun i hi => ?_, fun i hi j hj => ?_, fun j h1 h2 h3 => ?_⟩
    · rw [far 0 (by omega) (by omega), far 1 (by omega) (by omega)]; exact I.head
    · by_cases hik : i = k
      · subst hik
        rw [sL, if_neg (by omega), sB, if_neg (by omega), sA, if_pos (by omega), sL, if_neg (by omega), sB, if_neg (by omega), sA, if_pos (by omega)]
        have e5 : 4 * lineN f i - 2 - (4 * lineN f i - 2) = 0 := by omega
        have e6 : 4 * lineN f i - 1 - (4 * lineN f i - 2) = 1 := by omega
        rw [e5, e6]
        exact bl_ent0 _ (by omega)
      · have := hline i (by omega)
        rw [far _ (by omega) (by omega), far _ (by omega) (by omega)]
        exact I.offs i (by omega)
    · by_cases hik : i = k
      · subst hik
        rw [sL, if_neg (by omega), sB, if_pos (by omega), sL, if_neg (by omega), sB, if_pos (by omega)]
        have e5 : 4 * lineN f i - 4 * lineN f i = 0 := by omega
        have e6 : 4 * lineN f i + 1 - 4 * lineN f i = 1 := by omega
        rw [e5, e6]
        exact bl_ent0 _ (by omega)
      · have := hline i (by omega)
        rw [far _ (by omega) (by omega), far _ (by omega) (by omega)]
        exact I.lens i (by omega)
    · by_cases hik : i = k
      · subst hik
        rw [sL, if_pos (by omega), Nat.add_sub_cancel_left]
        rfl
      · have hb3 := bytesF_mono f (show i + 1 ≤ k by omega)
        have hb4 : bytesF f (i + 1) = bytesF f i + (f i).2.size := rfl
        rw [far _ (by omega) (by omega)]
        exact I.data i (by omega) j hj
    · have h4 := h3 k (by omega)
      rw [far j (by omega) h4]
      exact I.zero j h1 (by omega) (fun i hi => h3 i (by omega))

theorem twoF_bl (L : List UInt8) (i : Nat) : twoF ⟨L.toArray⟩ i = 256 * bl L i + bl L (i + 1) := rfl

/-- behind k slots, c cells have come -/
structure SlotI (size n : Nat) (f : Nat → Cel) (P : ByteArray) (k c : Nat) : Prop where
  c_le : c ≤ n
  below : ∀ i, i < c → lineN f i ≤ k
  above : ∀ i, c ≤ i → i < n → k < lineN f i
  used : usedL P k = (List.range c).map f
  top : topF P k = size - bytesF f c
  last : lastS P k = if c = 0 then 0 else lineN f (c - 1)
  good : goodS P k

theorem built_slots (size n : Nat) (f : Nat → Cel) (hg : ¬ AnyBad f n) (hf : Fit size n f) (P : ByteArray) (hP : P = ⟨(bufF size n f n).toArray⟩) : ∀ k, k ≤ (lastF f n).toNat → ∃ c, SlotI size n f P k c := by
  have z0 := hf.size_ge
  have z1 := hf.size_le
  have hroom := hf.room
  have hl := last_of_good hg
  have I := bufI size n f hg hf n (Nat.le_refl _)
  have hsz : P.size = size := by rw [hP]; exact I.len
  have h0 : twoF P 0 = (lastF f n).toNat := by rw [hP, twoF_bl]; exact I.head
  have t2 : ∀ i, twoF P i = 256 * bl (bufF size n f n) i + bl (bufF size n f n) (i + 1) := fun i => by rw [hP, twoF_bl]
  intro k
  induction k with
  | zero => exact fun _ => ⟨0, by omega, fun i hi => by omega, fun i _ hi => by have := good_at hg i hi; unfold lineN; omega, rfl, by simp [topF, hsz, bytesF], rfl, fun i hi => by omega⟩
  | succ k ih =>
    intro hk
    obtain ⟨c, J⟩ := ih (by omega)
    by_cases hc : c < n ∧ lineN f c = k + 1
    · obtain ⟨hc1, hc2⟩ := hc
      have hgc := good_at hg c hc1
      have o1 := I.offs c hc1
      have o2 := I.lens c hc1
      rw [hc2] at o1 o2
      rw [show 4 * (k + 1) - 2 = 2 + 4 * k by omega, show 4 * (k + 1) - 1 = 2 + 4 * k + 1 by omega] at o1
      rw [show 4 * (k + 1) = 4 + 4 * k by omega] at o2
      have ho : twoF P (2 + 4 * k) = size - bytesF f (c + 1) := by rw [t2]; exact o1
      have hn : twoF P (4 + 4 * k) = (f c).2.size := by rw [t2]; exact o2
      have hb1 : bytesF f (c + 1) = bytesF f c + (f c).2.size := rfl
      have hb2 := bytesF_mono f (show c + 1 ≤ n by omega)
      have hnf : ¬ freeS P k := fun h => by have := h.2; omega
      have htop := J.top
      refine ⟨c + 1, by omega, fun i hi => ?_, fun i h1 h2 => ?_, ?_, ?_, ?_, goodS_succ J.good ?_⟩
      · by_cases e : i = c
        · rw [e]; omega
        · have := J.below i (by omega); omega
      · have := line_lt hg c i (by omega) h2
        have := good_at hg i h2
        unfold lineN at hc2 ⊢
        omega
      · have hne : ¬ twoF P (4 + 4 * k) = 0 := by omega
        simp only [usedL, hne, if_false, J.used, List.range_succ, List.map_append, List.map_cons, List.map_nil]
        congr 2
        refine Prod.ext ?_ ?_
        · show ((k : Int) + 1) = (f c).1
          unfold lineN at hc2
          omega
        · show P.extract (twoF P (2 + 4 * k)) (twoF P (2 + 4 * k) + twoF P (4 + 4 * k)) = (f c).2
          rw [ho, hn]
          have hsx : (P.extract (size - bytesF f (c + 1)) (size - bytesF f (c + 1) + (f c).2.size)).size = (f c).2.size := by
            rw [ByteArray.size_extract, hsz]; omega
          refine page_ext hsx fun j hj => ?_
          rw [hsx] at hj
          rw [bt_extract _ _ _ _ (by rw [hsz]; omega) (by omega), hP, bt_bl]
          exact I.data c hc1 j hj
      · simp only [topF, hnf, if_false, ho]
      · simp only [lastS, hnf, if_false]
        rw [if_neg (by omega), Nat.add_sub_cancel, hc2]
      · unfold badS
        rintro ⟨_, h | h | h⟩ <;> omega
    · have hne : ∀ i, i < n → lineN f i ≠ k + 1 := fun i hi e => by
        by_cases h1 : i < c
        · have := J.below i h1; omega
        · have h2 : i ≠ c := fun h => hc (by subst h; exact ⟨hi, e⟩)
          have h3 := J.above c (Nat.le_refl _) (by omega)
          have h4 := line_lt hg c i (by omega) hi
          have h5 := good_at hg c (by omega)
          unfold lineN at e h3
          omega
      have hzero : ∀ j, 2 + 4 * k ≤ j → j < 6 + 4 * k → bl (bufF size n f n) j = 0 := fun j h1 h2 => I.zero j (by omega) (by omega) (fun i hi => by
        have := hne i hi
        have := good_at hg i hi
        have h6 : 1 ≤ lineN f i := by unfold lineN; omega
        omega)
      have hfr : freeS P k := by
        constructor
        · rw [t2, hzero _ (by omega) (by omega), hzero _ (by omega) (by omega)]
        · rw [t2, hzero _ (by omega) (by omega), hzero _ (by omega) (by omega)]
      refine ⟨c, J.c_le, fun i hi => by have := J.below i hi; omega, fun i h1 h2 => by have := J.above i h1 h2; have := hne i h2; omega, ?_, ?_, ?_, goodS_succ J.good (fun hb => hb.1 hfr)⟩
      · simp only [usedL, hfr.2, if_true]; exact J.used
      · simp only [topF, hfr, if_true]; exact J.top
      · simp only [lastS, hfr, if_true]; exact J.last

/-- **What Fill builds is a page with these cells.** -/
theorem built_page (size n : Nat) (f : Nat → Cel) (hg : ¬ AnyBad f n) (hf : Fit size n f) (hs : sizeB size = true) (P : ByteArray) (hP : P = ⟨(bufF size n f n).toArray⟩) :
    P.size = size ∧ ValidR P ∧ usedL P (twoF P 0) = (List.range n).map f := by
  have z0 := hf.size_ge
  have z1 := hf.size_le
  have hroom := hf.room
  have hl := last_of_good hg
  have I := bufI size n f hg hf n (Nat.le_refl _)
  have hsz : P.size = size := by rw [hP]; exact I.len
  have h0 : twoF P 0 = (lastF f n).toNat := by rw [hP, twoF_bl]; exact I.head
  obtain ⟨c, J⟩ := built_slots size n f hg hf P hP _ (Nat.le_refl _)
  have hcn : c = n := by
    apply Classical.byContradiction
    intro hne
    have hlt : c < n := by have := J.c_le; omega
    have h1 := J.above c (Nat.le_refl _) hlt
    have h2 := hf.le c hlt
    unfold lineN at h1
    omega
  subst hcn
  rw [← h0] at J
  refine ⟨hsz, ⟨⟨by rw [hsz]; exact hs, by rw [h0]; omega, by rw [h0, hsz]; omega⟩, J.good, ?_, fun j h1 h2 => ?_⟩, J.used⟩
  · rw [J.last, h0]
    unfold lastF lineN
    split
    · rfl
    · rfl
  · rw [J.top] at h1
    rw [hP, bt_bl]
    refine I.zero j (by omega) h1 (fun i hi => ?_)
    have := hf.le i hi
    have := good_at hg i hi
    rw [h0] at h2
    unfold lineN
    omega
end Go.Proofs.Ytnileonlabpbpaa
