/- Rings in plain words: a whole ring is the one that is built of its owner and members. -/
import Derived.Test.YtpobjheodlkkiaaGreatDoorChB
namespace Go.Proofs.YtpobjheodlkkiaaGreatDoor
set_option linter.unusedVariables false
set_option maxRecDepth 20000
set_option linter.unusedSimpArgs false

theorem sortI_pair (l : List Int) : (sortI l).Pairwise (· ≤ ·) := by
  have := List.pairwise_mergeSort (le := fun x y : Int => decide (x ≤ y)) (fun a b c h1 h2 => by simp at h1 h2 ⊢; omega) (fun a b => by simp; omega) l
  exact this.imp (fun h => by simpa using h)
theorem sortI_perm (l : List Int) : (sortI l).Perm l := List.mergeSort_perm _ _
theorem sortI_len (l : List Int) : (sortI l).length = l.length := (sortI_perm l).length_eq
theorem sortI_eq {l m : List Int} (h : m.Pairwise (· ≤ ·)) (hp : m.Perm l) : sortI l = m :=
  List.Perm.eq_of_pairwise (fun a b _ _ h1 h2 => by omega) (sortI_pair l) h ((sortI_perm l).trans hp.symm)
theorem sortI_mem {l : List Int} {x : Int} : x ∈ sortI l ↔ x ∈ l := (sortI_perm l).mem_iff
section
variable {l : List Lk} {o : Nat} {T : List Nat}
theorem Whole.len (h : Whole l o T) : T.length = l.length := by
  have h1 := h.met.le
  have h2 := nodup_sub_len (List.range l.length) T List.nodup_range (fun x hx => h.all x (List.mem_range.1 hx))
  rw [List.length_range] at h2
  omega
/-- the keys on the way -/
def roundF (l : List Lk) (T : List Nat) : List Int := T.map fun i => (nthL l i).1
theorem roundF_len : (roundF l T).length = T.length := by simp [roundF]
theorem roundF_at {j : Nat} (h : j < T.length) : nthI (roundF l T) j = (nthL l (nthN T j)).1 := by
  unfold nthI nthN roundF
  simp [List.getD_eq_getElem?_getD, h]
theorem Whole.perm (h : Whole l o T) : T.Perm (List.range l.length) := by
  rw [List.perm_ext_iff_of_nodup h.met.nodup List.nodup_range]
  intro a
  rw [List.mem_range]
  exact ⟨h.met.lt a, h.all a⟩
theorem ks_range (l : List Lk) : ks l = (List.range l.length).map fun i => (nthL l i).1 := by
  apply ext_nthI
  · simp [ks]
  · intro i hi
    rw [ks_len] at hi
    rw [ks_at hi]
    unfold nthI
    simp [List.getD_eq_getElem?_getD, hi]
theorem Whole.round_perm (h : Whole l o T) : (ks l).Perm (roundF l T) := by
  rw [ks_range]
  exact (h.perm.map _).symm
theorem Whole.nodup (h : Whole l o T) : (roundF l T).Nodup := h.round_perm.nodup (ks_nodup h.good)
theorem keyB_of {i : Nat} (h : good1 l i = true) : keyB (nthL l i).1 = true := by
  unfold good1 at h
  rw [Bool.and_eq_true] at h
  exact h.1
theorem Whole.right (h : Whole l o T) : Right (roundF l T) := by
  refine ⟨fun k hk => ?_, h.nodup, ?_⟩
  · obtain ⟨i, hi, rfl⟩ := List.mem_map.1 hk
    exact keyB_of (h.good i (h.met.lt i hi))
  · rw [roundF_len, h.len]; exact h.le
theorem Whole.head (h : Whole l o T) : roundF l T = own l :: (roundF l T).tail := by
  have h1 : 0 < (roundF l T).length := by rw [roundF_len]; exact h.met.pos
  have h0 : nthI (roundF l T) 0 = own l := by rw [roundF_at h.met.pos, h.met.first]; exact h.first
  cases hr : roundF l T with
  | nil => rw [hr] at h1; simp at h1
  | cons x xs =>
    rw [hr] at h0
    have : x = own l := h0
    rw [this, List.tail_cons]
theorem sortI_ks (h : Whole l o T) : sortI (roundF l T) = ks l := sortI_eq ((ks_pair h.good).imp (fun h => by omega)) h.round_perm
theorem idxOf_nth {T : List Nat} (hd : T.Nodup) {j : Nat} (hj : j < T.length) : T.idxOf (nthN T j) = j := by
  rw [nthN_get hj]
  exact hd.idxOf_getElem j hj
/-- a whole ring is built of its owner and members -/
theorem Whole.built (h : Whole l o T) : l = builtF (own l) (roundF l T).tail := by
  have hlen := h.len
  have hR : roundF l T = own l :: (roundF l T).tail := h.head
  have hRl : (roundF l T).length = l.length := by rw [roundF_len, hlen]
  unfold builtF
  rw [← hR, sortI_ks h]
  apply ext_nthL
  · simp [ks]
  · intro i hi
    have hT := h.all i hi
    obtain ⟨j, hj, e⟩ := List.getElem_of_mem hT
    rw [← nthN_get hj] at e
    have hk : nthI (roundF l T) j = (nthL l i).1 := by rw [roundF_at hj, e]
    have hix : idxI (roundF l T) (nthL l i).1 = j := idxI_eq h.nodup (by rw [roundF_len]; exact hj) hk
    have hlk : nthL ((ks l).map (lkF (roundF l T) (own l))) i = lkF (roundF l T) (own l) (nthL l i).1 := by
      have hi2 : i < (ks l).length := by rw [ks_len]; exact hi
      rw [← ks_at hi]
      unfold nthL nthI
      simp [List.getD_eq_getElem?_getD, hi2]
    rw [hlk]
    unfold lkF
    rw [hix, hRl, Int.toNat_natCast]
    have hn0 := h.pos
    -- the next one
    have hnext : (nthL l i).2.1 = nthI (roundF l T) ((j + 1) % l.length) := by
      by_cases hlast : j + 1 < l.length
      · rw [Nat.mod_eq_of_lt hlast, roundF_at (by omega), ← e]
        exact h.met.step j (by omega)
      · have e2 : j + 1 = l.length := by omega
        rw [e2, Nat.mod_self, roundF_at h.met.pos, h.met.first, h.first, ← h.last]
        unfold lastN
        rw [show T.length - 1 = j from by omega, e]
    have hprior : (nthL l i).2.2.1 = nthI (roundF l T) ((j + l.length - 1) % l.length) := by
      rw [h.prior i hi]
      unfold fromF
      rw [← e, idxOf_nth h.met.nodup hj, hlen, roundF_at (by rw [hlen]; exact Nat.mod_lt _ hn0)]
    have hown : (nthL l i).2.2.2 = own l := by
      have := h.owner i hi
      unfold good4 at this
      rw [Bool.and_eq_true] at this
      exact of_decide_eq_true this.2
    rw [← hnext, ← hprior, ← hown]
end
/-- what Wrong takes for right -/
theorem valid_built {l : List Lk} (h : wrongF l = (-1, 0, 0)) : ∃ o ms, l = builtF o ms ∧ Right (o :: ms) ∧ own l = o := by
  obtain ⟨o, T, hw⟩ := whole_of h
  refine ⟨_, _, hw.built, ?_, rfl⟩
  rw [← hw.head]
  exact hw.right

section
variable {o : Int} {ms : List Int}
theorem built_len (o : Int) (ms : List Int) : (builtF o ms).length = ms.length + 1 := by simp [builtF, sortI_len]
theorem built_at {i : Nat} (hi : i < ms.length + 1) : nthL (builtF o ms) i = lkF (o :: ms) o (nthI (sortI (o :: ms)) i) := by
  have h2 : i < (sortI (o :: ms)).length := by rw [sortI_len]; simpa using hi
  unfold builtF nthL nthI
  simp [List.getD_eq_getElem?_getD, h2]
theorem built_ks (o : Int) (ms : List Int) : ks (builtF o ms) = sortI (o :: ms) := by
  unfold ks builtF
  rw [List.map_map]
  have : ((fun x : Lk => x.1) ∘ lkF (o :: ms) o) = id := by funext x; rfl
  rw [this, List.map_id]
theorem built_own (o : Int) (ms : List Int) : own (builtF o ms) = o := by
  unfold own
  rw [built_at (by omega)]
  rfl
theorem built_sorted (h : Right (o :: ms)) : (sortI (o :: ms)).Pairwise (· < ·) := by
  have h1 := sortI_pair (o :: ms)
  have h2 : (sortI (o :: ms)).Nodup := (sortI_perm _).symm.nodup h.nodup
  rw [List.pairwise_iff_getElem] at h1 ⊢
  intro i j hi hj hij
  have := h1 i j hi hj hij
  have hne : (sortI (o :: ms))[i] ≠ (sortI (o :: ms))[j] := fun e => by
    have := (List.getElem_inj h2).1 e
    omega
  omega
theorem built_good1 (h : Right (o :: ms)) (i : Nat) (hi : i < ms.length + 1) : good1 (builtF o ms) i = true := by
  unfold good1
  rw [built_at hi]
  have hlen : (sortI (o :: ms)).length = ms.length + 1 := by rw [sortI_len]; rfl
  have hm : nthI (sortI (o :: ms)) i ∈ o :: ms := sortI_mem.1 (nthI_mem (by omega))
  rw [Bool.and_eq_true]
  refine ⟨h.keys _ hm, ?_⟩
  by_cases h0 : i = 0
  · simp [h0]
  · rw [built_at (by omega)]
    simp only [Bool.or_eq_true, decide_eq_true_eq]
    right
    show nthI _ _ < nthI _ _
    rw [nthI_get (by omega), nthI_get (by omega)]
    exact List.pairwise_iff_getElem.1 (built_sorted h) (i - 1) i (by omega) (by omega) (by omega)
theorem built_good4 (h : Right (o :: ms)) (i : Nat) (hi : i < ms.length + 1) : good4 (builtF o ms) i = true := by
  unfold good4
  rw [built_at hi, built_own]
  rw [Bool.and_eq_true]
  exact ⟨h.keys o (by simp), by simp [lkF]⟩
/-- where the key of the j-th in the round stands -/
def placeF (o : Int) (ms : List Int) (j : Nat) : Nat := (idxI (sortI (o :: ms)) (nthI (o :: ms) j)).toNat
theorem place_ok (h : Right (o :: ms)) {j : Nat} (hj : j < ms.length + 1) : placeF o ms j < ms.length + 1 ∧ idxI (sortI (o :: ms)) (nthI (o :: ms) j) = placeF o ms j ∧ nthL (builtF o ms) (placeF o ms j) = lkF (o :: ms) o (nthI (o :: ms) j) := by
  have hm : nthI (o :: ms) j ∈ sortI (o :: ms) := sortI_mem.2 (nthI_mem (by simpa using hj))
  have h1 := idxI_mem.2 hm
  have h2 := (idxI_ge (sortI (o :: ms)) (nthI (o :: ms) j)).2
  rw [sortI_len] at h2
  simp only [List.length_cons] at h2
  have h3 : placeF o ms j < ms.length + 1 := by unfold placeF; omega
  refine ⟨h3, by unfold placeF; omega, ?_⟩
  rw [built_at h3]
  unfold placeF
  rw [idxI_val _ _ h1]
theorem lk_round (h : Right (o :: ms)) {j : Nat} (hj : j < ms.length + 1) : lkF (o :: ms) o (nthI (o :: ms) j) = (nthI (o :: ms) j, nthI (o :: ms) ((j + 1) % (ms.length + 1)), nthI (o :: ms) ((j + ms.length) % (ms.length + 1)), o) := by
  unfold lkF
  rw [idxI_nodup h.nodup (by simpa using hj), Int.toNat_natCast]
  simp only [List.length_cons]
  rw [show j + (ms.length + 1) - 1 = j + ms.length from by omega]
theorem place_inj (h : Right (o :: ms)) {i j : Nat} (hi : i < ms.length + 1) (hj : j < ms.length + 1) (e : placeF o ms i = placeF o ms j) : i = j := by
  have h1 := (place_ok h hi).2.2
  have h2 := (place_ok h hj).2.2
  rw [e, h2] at h1
  have : nthI (o :: ms) j = nthI (o :: ms) i := congrArg (·.1) h1
  exact nodup_inj h.nodup (by simpa using hi) (by simpa using hj) this.symm
theorem nxt_place (h : Right (o :: ms)) {j : Nat} (hj : j < ms.length + 1) : nxt (builtF o ms) (placeF o ms j) = placeF o ms ((j + 1) % (ms.length + 1)) := by
  unfold nxt
  rw [built_ks, (place_ok h hj).2.2, lk_round h hj]
  exact (place_ok h (Nat.mod_lt _ (by omega))).2.1
theorem ringF_built (h : Right (o :: ms)) : ∀ (n j : Nat), j < ms.length + 1 → ms.length < j + n → ringF (builtF o ms) n ((List.range (j + 1)).map (placeF o ms)) = (none, (List.range (ms.length + 1)).map (placeF o ms))
  | 0, j, hj, hn => by omega
  | n + 1, j, hj, hn => by
    have hl : lastN ((List.range (j + 1)).map (placeF o ms)) = placeF o ms j := by
      rw [List.range_succ, List.map_append]
      exact lastN_app _ _
    unfold ringF
    rw [hl, nxt_place h hj, (place_ok h hj).2.2, lk_round h hj, built_own]
    simp only
    by_cases he : j + 1 = ms.length + 1
    · rw [if_pos (by rw [he, Nat.mod_self]; rfl), he]
    · have hj1 : j + 1 < ms.length + 1 := by omega
      rw [Nat.mod_eq_of_lt hj1]
      rw [if_neg (fun e => by
        have := nodup_inj h.nodup (i := j + 1) (j := 0) (by simpa using hj1) (by simp) e
        omega)]
      rw [if_neg (by
        rintro (e | e)
        · omega
        · rw [Int.toNat_natCast] at e
          obtain ⟨i, hi, e2⟩ := List.mem_map.1 e
          have := place_inj h (by have := List.mem_range.1 hi; omega) hj1 e2
          have := List.mem_range.1 hi
          omega)]
      have := ringF_built h n (j + 1) hj1 (by omega)
      rw [List.range_succ, List.map_append] at this
      rw [Int.toNat_natCast]
      exact this
theorem built_valid (h : Right (o :: ms)) : wrongF (builtF o ms) = (-1, 0, 0) := by
  have hle := h.le
  simp only [List.length_cons] at hle
  have hlen := built_len o ms
  have hp0 := place_ok h (j := 0) (by omega)
  have h0 : nthI (o :: ms) 0 = o := rfl
  unfold wrongF
  rw [hlen, if_neg (by omega), if_neg (by omega)]
  rw [firstI_none (fun j hj => by rw [built_good1 h j hj, built_good4 h j hj]; rfl)]
  simp only
  rw [built_ks, built_own]
  rw [h0] at hp0
  rw [if_neg (by rw [hp0.2.1]; omega)]
  have hr := ringF_built h (ms.length + 1) 0 (by omega) (by omega)
  rw [show (List.range (0 + 1)).map (placeF o ms) = [(idxI (sortI (o :: ms)) o).toNat] from by simp [placeF, h0]] at hr
  rw [hr]
  simp only
  have hnd : ((List.range (ms.length + 1)).map (placeF o ms)).Nodup := by
    rw [List.Nodup, List.pairwise_map]
    refine List.Pairwise.imp_of_mem ?_ (List.nodup_range (n := ms.length + 1))
    intro a b ha hb hab e
    exact hab (place_inj h (List.mem_range.1 ha) (List.mem_range.1 hb) e)
  have hall : ∀ i, i < ms.length + 1 → ∃ j, j < ms.length + 1 ∧ placeF o ms j = i := by
    intro i hi
    have hm : nthI (sortI (o :: ms)) i ∈ o :: ms := sortI_mem.1 (nthI_mem (by rw [sortI_len]; simpa using hi))
    obtain ⟨j, hj, e⟩ := List.getElem_of_mem hm
    rw [← nthI_get hj] at e
    refine ⟨j, by simpa using hj, ?_⟩
    unfold placeF
    rw [e, idxI_nodup ((sortI_perm _).symm.nodup h.nodup) (by rw [sortI_len]; simpa using hi)]
    omega
  rw [firstI_none (fun i hi => by
    obtain ⟨j, hj, e⟩ := hall i hi
    rw [decide_eq_false_iff_not, Classical.not_not]
    exact List.mem_map.2 ⟨j, List.mem_range.2 hj, e⟩)]
  simp only
  rw [firstI_none (fun i hi => by
    obtain ⟨j, hj, rfl⟩ := hall i hi
    rw [decide_eq_false_iff_not, Classical.not_not, (place_ok h hj).2.2, lk_round h hj]
    unfold fromF
    have hlm : ((List.range (ms.length + 1)).map (placeF o ms)).length = ms.length + 1 := by simp
    have hn : ∀ q, q < ms.length + 1 → nthN ((List.range (ms.length + 1)).map (placeF o ms)) q = placeF o ms q := fun q hq => by
      unfold nthN
      simp [List.getD_eq_getElem?_getD, hq]
    have hix := idxOf_nth hnd (j := j) (by rw [hlm]; exact hj)
    rw [hn j hj] at hix
    rw [hix, hlm]
    have hq : (j + (ms.length + 1) - 1) % (ms.length + 1) < ms.length + 1 := Nat.mod_lt _ (by omega)
    rw [hn _ hq, (place_ok h hq).2.2, lk_round h hq]
    rw [show j + (ms.length + 1) - 1 = j + ms.length from by omega])]
end
end Go.Proofs.YtpobjheodlkkiaaGreatDoor
