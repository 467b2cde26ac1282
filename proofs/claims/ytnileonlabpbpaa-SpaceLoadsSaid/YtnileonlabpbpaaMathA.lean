/- A page that is valid is determined by its size and its cells. -/
import Derived.Test.YtnileonlabpbpaaCells
namespace Go.Proofs.Ytnileonlabpbpaa
open Go.RowKit
set_option linter.unusedVariables false
set_option maxRecDepth 20000

theorem two_inj {a b c d : Nat} (hb : b < 256) (hd : d < 256) (h : 256 * a + b = 256 * c + d) : a = c ∧ b = d := by omega
theorem twoF_inj {p q : ByteArray} {i : Nat} (h : twoF p i = twoF q i) : bt p i = bt q i ∧ bt p (i + 1) = bt q (i + 1) :=
  two_inj (bt_lt p (i + 1)) (bt_lt q (i + 1)) h
theorem bt_beyond (p : ByteArray) (i : Nat) (h : p.size ≤ i) : bt p i = 0 := by
  unfold bt
  rw [List.getD_eq_getElem?_getD, List.getElem?_eq_none (by simpa using h)]
  rfl
theorem page_ext {p q : ByteArray} (hs : p.size = q.size) (h : ∀ j, j < p.size → bt p j = bt q j) : p = q := by
  apply ByteArray.ext
  apply Array.ext
  · exact hs
  · intro i h1 h2
    have := h i h1
    rw [← get_bt p i h1, ← get_bt q i h2] at this
    exact UInt8.toNat_inj.1 this
theorem bt_extract (p : ByteArray) (a b j : Nat) (h : b ≤ p.size) (hj : a + j < b) : bt (p.extract a b) j = bt p (a + j) := by
  have h1 : j < (p.extract a b).size := by rw [ByteArray.size_extract]; omega
  rw [← get_bt _ j h1, ← get_bt p (a + j) (by omega)]
  congr 1
  exact ByteArray.getElem_extract ..

theorem used_line (p : ByteArray) (k : Nat) : ∀ c ∈ usedL p k, c.1 ≤ k := by
  induction k with
  | zero => intro c hc; simp [usedL] at hc
  | succ k ih =>
    intro c hc
    unfold usedL at hc
    split at hc
    · have := ih c hc; omega
    · rcases List.mem_append.1 hc with h | h
      · have := ih c h; omega
      · rw [List.mem_singleton.1 h]; simp [cellS]
theorem slot_in {p : ByteArray} (hN : 2 + 4 * twoF p 0 ≤ p.size) (hg : goodS p (twoF p 0)) (k : Nat) (hk : k < twoF p 0) :
    (twoF p (4 + 4 * k) = 0 ∧ twoF p (2 + 4 * k) = 0) ∨ (twoF p (4 + 4 * k) ≠ 0 ∧ twoF p (2 + 4 * k) + twoF p (4 + 4 * k) = topF p k ∧ topF p k ≤ p.size ∧ ¬ freeS p k) := by
  have hb := hg k hk
  have ht := topF_in p hN k (fun i hi => hg i (by omega))
  by_cases hf : freeS p k
  · exact .inl ⟨hf.2, hf.1⟩
  · right
    unfold badS at hb
    have hb' : ¬ (twoF p (4 + 4 * k) = 0 ∨ twoF p (2 + 4 * k) + twoF p (4 + 4 * k) ≠ topF p k ∨ twoF p (2 + 4 * k) < 2 + 4 * twoF p 0) := fun h => hb ⟨hf, h⟩
    exact ⟨fun h => hb' (.inl h), Classical.byContradiction fun h => hb' (.inr (.inl h)), ht.2, hf⟩
theorem slot_le {p : ByteArray} (hv : ValidR p) (k : Nat) (hk : k < twoF p 0) : twoF p (2 + 4 * k) + twoF p (4 + 4 * k) ≤ p.size := by
  obtain ⟨⟨_, _, hN⟩, hg, _⟩ := hv
  rcases slot_in hN hg k hk with ⟨h1, h2⟩ | ⟨_, h1, h2, _⟩ <;> omega
theorem topF_succ {p : ByteArray} (hN : 2 + 4 * twoF p 0 ≤ p.size) (hg : goodS p (twoF p 0)) (k : Nat) (hk : k < twoF p 0) : topF p (k + 1) + twoF p (4 + 4 * k) = topF p k := by
  rcases slot_in hN hg k hk with ⟨h1, h2⟩ | ⟨_, h1, h2, hf⟩
  · have : freeS p k := ⟨h2, h1⟩
    simp [topF, this, h1]
  · simp [topF, hf, h1]
theorem used_last {p : ByteArray} (hv : ValidR p) (m : Nat) (hm : twoF p 0 = m + 1) : twoF p (4 + 4 * m) ≠ 0 := by
  obtain ⟨⟨_, _, hN⟩, hg, hl, _⟩ := hv
  rcases slot_in hN hg m (by omega) with ⟨h1, h2⟩ | ⟨h1, _⟩
  · exfalso
    rw [hm] at hl
    have hf : freeS p m := ⟨h2, h1⟩
    simp [lastS, hf] at hl
    have := lastS_le p m
    omega
  · exact h1
theorem count_same {p q : ByteArray} (hp : ValidR p) (hq : ValidR q) (hu : usedL p (twoF p 0) = usedL q (twoF q 0)) : twoF p 0 = twoF q 0 := by
  cases hm : twoF p 0 with
  | zero =>
    cases hn : twoF q 0 with
    | zero => rfl
    | succ n =>
      have h1 := used_last hq n hn
      rw [hm, hn] at hu
      simp [usedL, h1] at hu
  | succ m =>
    have h1 := used_last hp m hm
    cases hn : twoF q 0 with
    | zero =>
      rw [hm, hn] at hu
      simp [usedL, h1] at hu
    | succ n =>
      have h2 := used_last hq n hn
      rw [hm, hn] at hu
      simp only [usedL, h1, h2, if_false] at hu
      have := (List.append_inj' hu rfl).2
      simp [cellS] at this
      omega
theorem used_same {p q : ByteArray} {n : Nat} (hu : usedL p n = usedL q n) : ∀ d k, k + d = n → usedL p k = usedL q k := by
  intro d
  induction d with
  | zero => intro k hk; have e : k = n := by omega
            rw [e]; exact hu
  | succ d ih =>
    intro k hk
    have h := ih (k + 1) (by omega)
    unfold usedL at h
    split at h <;> split at h
    · exact h
    · exfalso
      have hm : cellS q k ∈ usedL p k := by rw [h]; simp
      have := used_line p k _ hm
      simp [cellS] at this
      omega
    · exfalso
      have hm : cellS p k ∈ usedL q k := by rw [← h]; simp
      have := used_line q k _ hm
      simp [cellS] at this
      omega
    · exact (List.append_inj' h rfl).1
theorem slot_same {p q : ByteArray} {n : Nat} (hu : usedL p n = usedL q n) (k : Nat) (hk : k < n) : (twoF p (4 + 4 * k) = 0 ↔ twoF q (4 + 4 * k) = 0) ∧ (twoF p (4 + 4 * k) ≠ 0 → cellS p k = cellS q k) := by
  have h0 := used_same hu (n - k) k (by omega)
  have h := used_same hu (n - (k + 1)) (k + 1) (by omega)
  unfold usedL at h
  split at h <;> split at h
  · rename_i h1 h2; exact ⟨⟨fun _ => h2, fun _ => h1⟩, fun h3 => absurd h1 h3⟩
  · rw [h0] at h; have := congrArg List.length h; simp at this
  · rw [h0] at h; have := congrArg List.length h; simp at this
  · rename_i h1 h2
    exact ⟨⟨fun h3 => absurd h3 h1, fun h3 => absurd h3 h2⟩, fun _ => by simpa using (List.append_inj' h rfl).2⟩
theorem cellS_len {p : ByteArray} (hv : ValidR p) (k : Nat) (hk : k < twoF p 0) : (cellS p k).2.size = twoF p (4 + 4 * k) := by
  have := slot_le hv k hk
  simp [cellS, ByteArray.size_extract]
  omega
theorem in_data {p : ByteArray} (hv : ValidR p) : ∀ k, k ≤ twoF p 0 → ∀ j, topF p k ≤ j → j < p.size → ∃ i, i < k ∧ twoF p (4 + 4 * i) ≠ 0 ∧ twoF p (2 + 4 * i) ≤ j ∧ j < twoF p (2 + 4 * i) + twoF p (4 + 4 * i) := by
  obtain ⟨⟨_, _, hN⟩, hg, _⟩ := hv
  intro k
  induction k with
  | zero => intro _ j h1 h2; simp [topF] at h1; omega
  | succ k ih =>
    intro hk j h1 h2
    rcases slot_in hN hg k (by omega) with ⟨g1, g2⟩ | ⟨g1, g2, _, hf⟩
    · have hfr : freeS p k := ⟨g2, g1⟩
      simp [topF, hfr] at h1
      obtain ⟨i, h3, h4⟩ := ih (by omega) j h1 h2
      exact ⟨i, by omega, h4⟩
    · simp [topF, hf] at h1
      by_cases hj : topF p k ≤ j
      · obtain ⟨i, h3, h4⟩ := ih (by omega) j hj h2
        exact ⟨i, by omega, h4⟩
      · exact ⟨k, by omega, g1, h1, by omega⟩

/-- Two valid pages of one size with the same cells are one. -/
theorem page_unique {p q : ByteArray} (hp : ValidR p) (hq : ValidR q) (hs : p.size = q.size) (hu : usedL p (twoF p 0) = usedL q (twoF q 0)) : p = q := by
  have hn := count_same hp hq hu
  obtain ⟨hp1, hpg, hpl, hpz⟩ := id hp
  obtain ⟨hq1, hqg, hql, hqz⟩ := id hq
  have hNp := hp1.2.2
  have hNq := hq1.2.2
  rw [← hn] at hu
  have hslot := slot_same hu
  have htop : ∀ k, k ≤ twoF p 0 → topF p k = topF q k := by
    intro k
    induction k with
    | zero => intro _; exact hs
    | succ k ih =>
      intro hk
      have t1 := topF_succ hNp hpg k (by omega)
      have t2 := topF_succ hNq hqg k (by omega)
      have t3 := ih (by omega)
      have hl : twoF p (4 + 4 * k) = twoF q (4 + 4 * k) := by
        by_cases h0 : twoF p (4 + 4 * k) = 0
        · rw [h0, (hslot k (by omega)).1.1 h0]
        · rw [← cellS_len hp k (by omega), ← cellS_len hq k (by omega), (hslot k (by omega)).2 h0]
      omega
  have hlen : ∀ k, k < twoF p 0 → twoF p (4 + 4 * k) = twoF q (4 + 4 * k) := fun k hk => by
    have t1 := topF_succ hNp hpg k (by omega)
    have t2 := topF_succ hNq hqg k (by omega)
    have t3 := htop k (by omega)
    have t4 := htop (k + 1) (by omega)
    omega
  have hoff : ∀ k, k < twoF p 0 → twoF p (2 + 4 * k) = twoF q (2 + 4 * k) := fun k hk => by
    have h0 := hlen k hk
    have t3 := htop k (by omega)
    rcases slot_in hNp hpg k hk with ⟨g1, g2⟩ | ⟨g1, g2, _⟩ <;> rcases slot_in hNq hqg k (by omega) with ⟨r1, r2⟩ | ⟨r1, r2, _⟩ <;> omega
  refine page_ext hs fun j hj => ?_
  by_cases h1 : j < 2
  · obtain ⟨a, b⟩ := twoF_inj (i := 0) hn
    rcases (by omega : j = 0 ∨ j = 1) with rfl | rfl
    · exact a
    · exact b
  · by_cases h2 : j < 2 + 4 * twoF p 0
    · obtain ⟨k, r, hk, hr⟩ : ∃ k r, j = 2 + 4 * k + r ∧ r < 4 := ⟨(j - 2) / 4, (j - 2) % 4, by omega, by omega⟩
      obtain ⟨a, b⟩ := twoF_inj (hoff k (by omega))
      obtain ⟨c, d⟩ := twoF_inj (hlen k (by omega))
      rcases (by omega : r = 0 ∨ r = 1 ∨ r = 2 ∨ r = 3) with rfl | rfl | rfl | rfl
      · rw [hk]; exact a
      · rw [hk]; exact b
      · rw [show j = 4 + 4 * k by omega]; exact c
      · rw [show j = 4 + 4 * k + 1 by omega]; exact d
    · by_cases h3 : j < topF p (twoF p 0)
      · rw [hpz j h3 (by omega), hqz j (by rw [← hn, ← htop _ (Nat.le_refl _)]; exact h3) (by omega)]
      · obtain ⟨i, g1, g2, g3, g4⟩ := in_data hp (twoF p 0) (Nat.le_refl _) j (by omega) hj
        have hc := congrArg Prod.snd ((hslot i g1).2 g2)
        simp only [cellS] at hc
        have e1 := bt_extract p (twoF p (2 + 4 * i)) (twoF p (2 + 4 * i) + twoF p (4 + 4 * i)) (j - twoF p (2 + 4 * i)) (slot_le hp i g1) (by omega)
        have e2 := bt_extract q (twoF q (2 + 4 * i)) (twoF q (2 + 4 * i) + twoF q (4 + 4 * i)) (j - twoF q (2 + 4 * i)) (slot_le hq i (by omega)) (by rw [← hoff i g1, ← hlen i g1]; omega)
        rw [hc, ← hoff i g1] at e1
        rw [← hoff i g1] at e2
        rw [show twoF p (2 + 4 * i) + (j - twoF p (2 + 4 * i)) = j by omega] at e1 e2
        rw [← e1, ← e2]
end Go.Proofs.Ytnileonlabpbpaa
