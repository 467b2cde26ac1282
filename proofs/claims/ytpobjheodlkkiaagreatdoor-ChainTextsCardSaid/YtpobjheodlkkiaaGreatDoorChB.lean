/- Rings in plain words: what Wrong takes for right is the ring of an owner and members, and the other way round. -/
import Derived.Test.YtpobjheodlkkiaaGreatDoorChA
namespace Go.Proofs.YtpobjheodlkkiaaGreatDoor
set_option linter.unusedVariables false
set_option maxRecDepth 20000
set_option linter.unusedSimpArgs false

theorem nthN_some {l : List Nat} {i : Nat} (h : i < l.length) : l[i]? = some (nthN l i) := by simp [nthN, List.getD_eq_getElem?_getD, h]
theorem nthN_mem {l : List Nat} {i : Nat} (h : i < l.length) : nthN l i ∈ l := List.mem_of_getElem? (nthN_some h)
theorem nthN_get {l : List Nat} {i : Nat} (h : i < l.length) : nthN l i = l[i] := by simp [nthN, List.getD_eq_getElem?_getD, h]
theorem nthN_app {l : List Nat} {x i : Nat} (h : i < l.length) : nthN (l ++ [x]) i = nthN l i := by
  unfold nthN
  rw [List.getD_eq_getElem?_getD, List.getD_eq_getElem?_getD, List.getElem?_append_left h]
theorem nthN_new {l : List Nat} {x : Nat} : nthN (l ++ [x]) l.length = x := by
  unfold nthN
  rw [List.getD_eq_getElem?_getD, List.getElem?_append_right (Nat.le_refl _)]
  simp
theorem lastN_app (l : List Nat) (x : Nat) : lastN (l ++ [x]) = x := by
  unfold lastN
  rw [List.length_append, List.length_singleton, Nat.add_sub_cancel, nthN_new]

theorem nodup_sub_len {α : Type} [BEq α] [LawfulBEq α] : ∀ (xs ys : List α), xs.Nodup → (∀ x ∈ xs, x ∈ ys) → xs.length ≤ ys.length
  | [], ys, _, _ => by simp
  | x :: xs, ys, hd, h => by
    rw [List.nodup_cons] at hd
    have hx := h x (by simp)
    have := nodup_sub_len xs (ys.erase x) hd.2 (fun y hy => by
      rw [List.mem_erase_of_ne (fun e => hd.1 (by rw [← e]; exact hy))]
      exact h y (by simp [hy]))
    rw [List.length_erase_of_mem hx] at this
    have := List.length_pos_of_mem hx
    simp only [List.length_cons]
    omega
section
variable {l : List Lk}
theorem sorted_lt (h : ∀ i, i < l.length → good1 l i = true) : ∀ (d i : Nat), i + d + 1 < l.length → (nthL l i).1 < (nthL l (i + d + 1)).1
  | 0, i, hi => by
    have := h (i + 1) (by omega)
    unfold good1 at this
    simp only [Bool.and_eq_true, Bool.or_eq_true, decide_eq_true_eq] at this
    have := this.2
    simp only [Nat.add_sub_cancel] at this
    rcases this with h | h
    · omega
    · simpa using h
  | d + 1, i, hi => by
    have h1 := sorted_lt h d i (by omega)
    have := h (i + (d + 1) + 1) (by omega)
    unfold good1 at this
    simp only [Bool.and_eq_true, Bool.or_eq_true, decide_eq_true_eq] at this
    have := this.2
    simp only [Nat.add_sub_cancel] at this
    rcases this with h | h
    · omega
    · have e : i + (d + 1) = i + d + 1 := by omega
      rw [e] at h ⊢
      omega
theorem sorted_of (h : ∀ i, i < l.length → good1 l i = true) {i j : Nat} (hij : i < j) (hj : j < l.length) : (nthL l i).1 < (nthL l j).1 := by
  have := sorted_lt h (j - i - 1) i (by omega)
  rwa [show i + (j - i - 1) + 1 = j from by omega] at this
theorem ks_pair (h : ∀ i, i < l.length → good1 l i = true) : (ks l).Pairwise (· < ·) := by
  rw [List.pairwise_iff_getElem]
  intro i j hi hj hij
  rw [← nthI_get hi, ← nthI_get hj]
  rw [ks_len] at hi hj
  rw [ks_at hi, ks_at hj]
  exact sorted_of h hij hj
theorem ks_nodup (h : ∀ i, i < l.length → good1 l i = true) : (ks l).Nodup := (ks_pair h).imp (fun h => by omega)
theorem key_inj (h : ∀ i, i < l.length → good1 l i = true) {i j : Nat} (hi : i < l.length) (hj : j < l.length) (e : (nthL l i).1 = (nthL l j).1) : i = j := by
  rcases Nat.lt_trichotomy i j with h1 | h1 | h1
  · have := sorted_of h h1 hj; omega
  · exact h1
  · have := sorted_of h h1 hi; omega
theorem nxt_key {i : Nat} (h : 0 ≤ nxt l i) : (nxt l i).toNat < l.length ∧ (nthL l (nxt l i).toNat).1 = (nthL l i).2.1 := by
  unfold nxt at h ⊢
  have h2 := (idxI_ge (ks l) (nthL l i).2.1).2
  rw [ks_len] at h2
  have h3 : (idxI (ks l) (nthL l i).2.1).toNat < l.length := by omega
  refine ⟨h3, ?_⟩
  rw [← ks_at h3]
  exact idxI_val _ _ h
theorem nxt_of (h : ∀ i, i < l.length → good1 l i = true) {i j : Nat} (hj : j < l.length) (e : (nthL l j).1 = (nthL l i).2.1) : nxt l i = j := by
  unfold nxt
  exact idxI_eq (ks_nodup h) (by rw [ks_len]; exact hj) (by rw [ks_at hj]; exact e)
/-- the links that were met so far -/
structure Met (l : List Lk) (o : Nat) (vis : List Nat) : Prop where
  pos : 0 < vis.length
  nodup : vis.Nodup
  lt : ∀ x ∈ vis, x < l.length
  first : nthN vis 0 = o
  step : ∀ p, p + 1 < vis.length → (nthL l (nthN vis p)).2.1 = (nthL l (nthN vis (p + 1))).1
theorem Met.last {o : Nat} {vis : List Nat} (h : Met l o vis) : lastN vis < l.length := h.lt _ (nthN_mem (by have := h.pos; omega))
theorem Met.one {o : Nat} (ho : o < l.length) : Met l o [o] := ⟨by simp, by simp, by simpa using ho, rfl, fun p hp => by simp at hp⟩
theorem Met.more {o : Nat} {vis : List Nat} (h : Met l o vis) (h0 : 0 ≤ nxt l (lastN vis)) (hn : (nxt l (lastN vis)).toNat ∉ vis) : Met l o (vis ++ [(nxt l (lastN vis)).toNat]) := by
  obtain ⟨k1, k2⟩ := nxt_key h0
  refine ⟨by simp, ?_, ?_, ?_, ?_⟩
  · rw [List.nodup_append]
    exact ⟨h.nodup, by simp, fun a ha b hb e => hn (by simp at hb; rw [← hb, ← e]; exact ha)⟩
  · intro x hx
    rw [List.mem_append] at hx
    rcases hx with hx | hx
    · exact h.lt x hx
    · simp at hx; rw [hx]; exact k1
  · rw [nthN_app h.pos]; exact h.first
  · intro p hp
    simp only [List.length_append, List.length_singleton] at hp
    by_cases hp2 : p + 1 < vis.length
    · rw [nthN_app hp2, nthN_app (by omega)]; exact h.step p hp2
    · have e : p + 1 = vis.length := by omega
      rw [nthN_app (by omega), e, nthN_new, k2]
      unfold lastN
      rw [show vis.length - 1 = p from by omega]
theorem Met.le {o : Nat} {vis : List Nat} (h : Met l o vis) : vis.length ≤ l.length := by
  have := nodup_sub_len vis (List.range l.length) h.nodup (fun x hx => List.mem_range.2 (h.lt x hx))
  simpa using this
theorem ringF_met {o : Nat} : ∀ (n : Nat) (vis vis' : List Nat), Met l o vis → l.length < vis.length + n → ringF l n vis = (none, vis') → Met l o vis' ∧ (nthL l (lastN vis')).2.1 = own l
  | 0, vis, vis', h, hn, e => by have := h.le; omega
  | n + 1, vis, vis', h, hn, e => by
    unfold ringF at e
    split at e
    · rename_i h1
      injection e with _ e
      subst e
      exact ⟨h, h1⟩
    · split at e
      · cases e
      · rename_i h2
        have h2' : 0 ≤ nxt l (lastN vis) ∧ (nxt l (lastN vis)).toNat ∉ vis := by
          constructor
          · exact Int.not_lt.1 (fun h => h2 (.inl h))
          · exact fun h => h2 (.inr h)
        exact ringF_met n _ vis' (h.more h2'.1 h2'.2) (by simp; omega) e
/-- a whole ring: the way through it -/
structure Whole (l : List Lk) (o : Nat) (T : List Nat) : Prop where
  pos : 0 < l.length
  le : l.length ≤ 500
  good : ∀ i, i < l.length → good1 l i = true
  owner : ∀ i, i < l.length → good4 l i = true
  met : Met l o T
  first : (nthL l o).1 = own l
  all : ∀ i, i < l.length → i ∈ T
  last : (nthL l (lastN T)).2.1 = own l
  prior : ∀ i, i < l.length → (nthL l i).2.2.1 = fromF l T i
theorem whole_of (h : wrongF l = (-1, 0, 0)) : ∃ o T, Whole l o T := by
  unfold wrongF at h
  split at h
  · cases h
  · rename_i h0
    split at h
    · cases h
    · rename_i h1
      split at h
      · split at h <;> (injection h with _ h; injection h with h _; omega)
      · rename_i h2
        have h2' := firstI_is h2
        split at h
        · injection h with h _; omega
        · rename_i h3
          have h3' : 0 ≤ idxI (ks l) (own l) := Int.not_lt.1 h3
          split at h
          · injection h with _ h; injection h with h _; omega
          · rename_i vis h4
            split at h
            · injection h with _ h; injection h with h _; omega
            · rename_i h5
              split at h
              · injection h with _ h; injection h with h _; omega
              · rename_i h6
                have ho : (idxI (ks l) (own l)).toNat < l.length := by
                  have := (idxI_ge (ks l) (own l)).2
                  rw [ks_len] at this
                  omega
                obtain ⟨hm, hl⟩ := ringF_met l.length _ vis (Met.one ho) (by simp) h4
                refine ⟨_, vis, by omega, by omega, fun i hi => ?_, fun i hi => ?_, hm, ?_, fun i hi => ?_, hl, fun i hi => ?_⟩
                · have := h2' i hi
                  simp only [Bool.not_eq_false', Bool.and_eq_true] at this
                  exact this.1
                · have := h2' i hi
                  simp only [Bool.not_eq_false', Bool.and_eq_true] at this
                  exact this.2
                · rw [← ks_at ho]; exact idxI_val _ _ h3'
                · have := firstI_is h5 i hi
                  simpa using this
                · have := firstI_is h6 i hi
                  simpa using this
end
end Go.Proofs.YtpobjheodlkkiaaGreatDoor
