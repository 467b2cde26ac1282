/- Rings in plain words: a member put in, taken out; how many keys have other links then. -/
import Derived.Test.YthmcdlieglollaaChV
namespace Go.Proofs.Ythmcdlieglollaa
open Go.RowKit
set_option linter.unusedVariables false
set_option linter.unusedSimpArgs false
set_option linter.unusedSectionVars false

def insF (ms : List Int) (a k : Int) : List Int := ms.take (idxI ms a + 1).toNat ++ k :: ms.drop (idxI ms a + 1).toNat
def remF (ms : List Int) (k : Int) : List Int := ms.filter fun x => decide (x ≠ k)
theorem filter_all {l : List Int} {k : Int} (h : k ∉ l) : remF l k = l := by
  unfold remF
  rw [List.filter_eq_self]
  intro x hx
  simp
  intro e
  subst e
  exact h hx
theorem remF_app (A B : List Int) (k : Int) (ha : k ∉ A) (hb : k ∉ B) : remF (A ++ k :: B) k = A ++ B := by
  have h1 := filter_all ha
  have h2 := filter_all hb
  unfold remF at h1 h2 ⊢
  rw [List.filter_append, h1, List.filter_cons_of_neg (by simp), h2]
theorem remF_ins {ms : List Int} {a k : Int} (h : k ∉ ms) : remF (insF ms a k) k = ms := by
  unfold insF
  rw [remF_app _ _ _ (fun h1 => h (List.mem_of_mem_take h1)) (fun h1 => h (List.mem_of_mem_drop h1)), List.take_append_drop]
theorem insF_perm (ms : List Int) (a k : Int) : (insF ms a k).Perm (k :: ms) := by
  unfold insF
  exact List.perm_middle.trans (by rw [List.take_append_drop])
theorem insF_len (ms : List Int) (a k : Int) : (insF ms a k).length = ms.length + 1 := by
  have := (insF_perm ms a k).length_eq
  simpa using this
theorem right_perm {R R' : List Int} (hp : R'.Perm R) (h : Right R) : Right R' :=
  ⟨fun k hk => h.keys k (hp.mem_iff.1 hk), hp.symm.nodup h.nodup, by rw [hp.length_eq]; exact h.le⟩
theorem right_sub {o : Int} {ms ms' : List Int} (hs : ms'.Sublist ms) (h : Right (o :: ms)) : Right (o :: ms') := by
  have h1 : (o :: ms').Sublist (o :: ms) := List.Sublist.cons_cons o hs
  exact ⟨fun k hk => h.keys k (h1.subset hk), h1.nodup h.nodup, Nat.le_trans h1.length_le h.le⟩
theorem right_rem {o : Int} {ms : List Int} (k : Int) (h : Right (o :: ms)) : Right (o :: remF ms k) := right_sub List.filter_sublist h
theorem right_cons {o : Int} {ms : List Int} {k : Int} (h : Right (o :: ms)) (hk : keyB k = true) (hn : k ∉ o :: ms) (hl : ms.length + 1 < 500) : Right (o :: k :: ms) := by
  have hnd := h.nodup
  rw [List.nodup_cons] at hnd
  simp only [List.mem_cons, not_or] at hn
  refine ⟨fun x hx => ?_, ?_, by simp; omega⟩
  · simp only [List.mem_cons] at hx
    rcases hx with rfl | rfl | hx
    · exact h.keys _ (by simp)
    · exact hk
    · exact h.keys _ (by simp [hx])
  · rw [List.nodup_cons, List.nodup_cons]
    refine ⟨?_, hn.2, hnd.2⟩
    simp only [List.mem_cons, not_or]
    exact ⟨fun e => hn.1 e.symm, hnd.1⟩
theorem right_ins {o : Int} {ms : List Int} {a k : Int} (h : Right (o :: ms)) (hk : keyB k = true) (hn : k ∉ o :: ms) (hl : ms.length + 1 < 500) : Right (o :: insF ms a k) :=
  right_perm (List.Perm.cons o (insF_perm ms a k)) (right_cons h hk hn hl)

/-- how many keys have other links in two lists -/
def chgF (a b : List Lk) : Nat := (a.filter fun x => decide (x ∉ b)).length + (b.filter fun x => decide (x.1 ∉ ks a)).length
theorem mem_ks {l : List Lk} {k : Int} : k ∈ ks l ↔ ∃ x ∈ l, x.1 = k := by
  unfold ks
  rw [List.mem_map]
theorem built_mem {o : Int} {ms : List Int} {x : Lk} : x ∈ builtF o ms ↔ ∃ k ∈ o :: ms, x = lkF (o :: ms) o k := by
  unfold builtF
  rw [List.mem_map]
  constructor
  · rintro ⟨k, hk, rfl⟩; exact ⟨k, sortI_mem.1 hk, rfl⟩
  · rintro ⟨k, hk, rfl⟩; exact ⟨k, sortI_mem.2 hk, rfl⟩
theorem mem_nth {l : List Int} {x : Int} (h : x ∈ l) : ∃ i, i < l.length ∧ nthI l i = x := by
  obtain ⟨i, hi, e⟩ := List.getElem_of_mem h
  exact ⟨i, hi, by rw [nthI_get hi]; exact e⟩
theorem nthI_app_l {A B : List Int} {i : Nat} (h : i < A.length) : nthI (A ++ B) i = nthI A i := by
  unfold nthI
  rw [List.getD_eq_getElem?_getD, List.getD_eq_getElem?_getD, List.getElem?_append_left h]
theorem nthI_app_r {A B : List Int} {i : Nat} (h : A.length ≤ i) : nthI (A ++ B) i = nthI B (i - A.length) := by
  unfold nthI
  rw [List.getD_eq_getElem?_getD, List.getD_eq_getElem?_getD, List.getElem?_append_right h]
section
variable {o k : Int} {A B : List Int}
/-- the round with one more -/
theorem more_nth (i : Nat) : nthI (o :: (A ++ k :: B)) i = if i ≤ A.length then nthI (o :: (A ++ B)) i else if i = A.length + 1 then k else nthI (o :: (A ++ B)) (i - 1) := by
  have e1 : ∀ (x : Int) (l : List Int) (j : Nat), nthI (x :: l) (j + 1) = nthI l j := fun x l j => rfl
  cases i with
  | zero => rw [if_pos (by omega)]; rfl
  | succ i =>
    rw [e1]
    by_cases h1 : i + 1 ≤ A.length
    · rw [if_pos h1, e1, nthI_app_l (by omega), nthI_app_l (by omega)]
    · rw [if_neg h1]
      by_cases h2 : i + 1 = A.length + 1
      · rw [if_pos h2, nthI_app_r (by omega), show i - A.length = 0 from by omega]; rfl
      · rw [if_neg h2, nthI_app_r (by omega)]
        obtain ⟨q, hq⟩ : ∃ q, i = A.length + q + 1 := ⟨i - A.length - 1, by omega⟩
        subst hq
        rw [show A.length + q + 1 - A.length = q + 1 from by omega, e1, show A.length + q + 1 + 1 - 1 = (A.length + q) + 1 from by omega, e1, nthI_app_r (by omega), show A.length + q - A.length = q from by omega]
theorem same_lk (h1 : Right (o :: (A ++ B))) (h2 : Right (o :: (A ++ k :: B))) {j : Nat} (hj : j < (A ++ B).length + 1) (hp : j ≠ A.length) (hq : j ≠ (A.length + 1) % ((A ++ B).length + 1)) :
    lkF (o :: (A ++ B)) o (nthI (o :: (A ++ B)) j) = lkF (o :: (A ++ k :: B)) o (nthI (o :: (A ++ B)) j) := by
  have hlen : (A ++ B).length = A.length + B.length := List.length_append
  have hlen2 : (A ++ k :: B).length = A.length + B.length + 1 := by simp; omega
  rw [lk_round h1 hj]
  have hat : nthI (o :: (A ++ B)) j = nthI (o :: (A ++ k :: B)) (if j ≤ A.length then j else j + 1) := by
    rw [more_nth]
    by_cases h : j ≤ A.length
    · rw [if_pos h, if_pos h]
    · rw [if_neg h, if_neg (by omega), if_neg (by omega), show j + 1 - 1 = j from by omega]
  have hj2 : (if j ≤ A.length then j else j + 1) < (A ++ k :: B).length + 1 := by split <;> omega
  have hlk := lk_round h2 hj2
  rw [← hat] at hlk
  rw [hlk]
  congr 1
  rw [hlen] at hj hq ⊢
  rw [hlen2]
  rw [hlen2] at hj2
  have hn : nthI (o :: (A ++ B)) ((j + 1) % (A.length + B.length + 1)) = nthI (o :: (A ++ k :: B)) (((if j ≤ A.length then j else j + 1) + 1) % (A.length + B.length + 1 + 1)) := by
    by_cases h : j < A.length
    · rw [if_pos (by omega), Nat.mod_eq_of_lt (by omega), Nat.mod_eq_of_lt (by omega), more_nth, if_pos (by omega)]
    · rw [if_neg (by omega)]
      by_cases hl : j + 1 < A.length + B.length + 1
      · rw [Nat.mod_eq_of_lt hl, Nat.mod_eq_of_lt (by omega), more_nth, if_neg (by omega), if_neg (by omega), show j + 1 + 1 - 1 = j + 1 from by omega]
      · rw [show j + 1 = A.length + B.length + 1 from by omega, Nat.mod_self, Nat.mod_self, more_nth, if_pos (by omega)]
  have hp2 : nthI (o :: (A ++ B)) ((j + (A.length + B.length)) % (A.length + B.length + 1)) = nthI (o :: (A ++ k :: B)) (((if j ≤ A.length then j else j + 1) + (A.length + B.length + 1)) % (A.length + B.length + 1 + 1)) := by
    by_cases h0 : j = 0
    · subst h0
      have hAp : A.length + 1 < A.length + B.length + 1 := by
        rcases Nat.lt_or_ge (A.length + 1) (A.length + B.length + 1) with h | h
        · exact h
        · exfalso
          have : A.length + 1 = A.length + B.length + 1 := by omega
          rw [this, Nat.mod_self] at hq
          exact hq rfl
      rw [if_pos (by omega), Nat.zero_add, Nat.zero_add, Nat.mod_eq_of_lt (by omega), Nat.mod_eq_of_lt (by omega), more_nth, if_neg (by omega), if_neg (by omega)]
      rfl
    · by_cases h : j ≤ A.length
      · rw [if_pos h, show j + (A.length + B.length) = (j - 1) + (A.length + B.length + 1) from by omega, Nat.add_mod_right, Nat.mod_eq_of_lt (by omega),
          show j + (A.length + B.length + 1) = (j - 1) + (A.length + B.length + 1 + 1) from by omega, Nat.add_mod_right, Nat.mod_eq_of_lt (by omega), more_nth, if_pos (by omega)]
      · have hne : j ≠ A.length + 1 := fun e => by
          rw [Nat.mod_eq_of_lt (by omega)] at hq
          exact hq e
        rw [if_neg h, show j + (A.length + B.length) = (j - 1) + (A.length + B.length + 1) from by omega, Nat.add_mod_right, Nat.mod_eq_of_lt (by omega),
          show j + 1 + (A.length + B.length + 1) = j + (A.length + B.length + 1 + 1) from by omega, Nat.add_mod_right, Nat.mod_eq_of_lt (by omega), more_nth, if_neg (by omega), if_neg (by omega)]
  rw [hn, hp2]
/-- of links with different keys no more have a question true than there are keys for it -/
theorem few {l : List Lk} (hd : (ks l).Nodup) (p : Lk → Bool) (S : List Int) (h : ∀ x ∈ l, p x = true → x.1 ∈ S) : (l.filter p).length ≤ S.length := by
  have h1 : (ks (l.filter p)).Sublist (ks l) := List.Sublist.map _ List.filter_sublist
  have := nodup_sub_len (ks (l.filter p)) S (h1.nodup hd) (fun k hk => by
    obtain ⟨x, hx, rfl⟩ := mem_ks.1 hk
    rw [List.mem_filter] at hx
    exact h x hx.1 hx.2)
  rwa [ks_len] at this
theorem ks_built {o k : Int} {ms : List Int} : k ∈ ks (builtF o ms) ↔ k ∈ o :: ms := by rw [built_ks, sortI_mem]
theorem nd_built {o : Int} {ms : List Int} (h : Right (o :: ms)) : (ks (builtF o ms)).Nodup := ks_nodup (fun i hi => built_good1 h i (by rw [built_len] at hi; exact hi))
theorem lk_key {x : Lk} {R : List Int} {o k : Int} (h : x = lkF R o k) : x.1 = k := by rw [h]; rfl
/-- one put in: no more than three keys have other links -/
theorem chg_more (h1 : Right (o :: (A ++ B))) (h2 : Right (o :: (A ++ k :: B))) : chgF (builtF o (A ++ B)) (builtF o (A ++ k :: B)) ≤ 3 := by
  have f1 := few (nd_built h1) (fun x => decide (x ∉ builtF o (A ++ k :: B))) [nthI (o :: (A ++ B)) A.length, nthI (o :: (A ++ B)) ((A.length + 1) % ((A ++ B).length + 1))] (fun x hx hp => by
    obtain ⟨c, hc, rfl⟩ := built_mem.1 hx
    have hp := of_decide_eq_true hp
    obtain ⟨j, hj, rfl⟩ := mem_nth hc
    by_cases e1 : j = A.length
    · rw [e1]; exact List.mem_cons_self ..
    · by_cases e2 : j = (A.length + 1) % ((A ++ B).length + 1)
      · rw [← e2]; exact List.mem_cons_of_mem _ (List.mem_cons_self ..)
      · exfalso
        apply hp
        rw [built_mem]
        refine ⟨_, ?_, same_lk h1 h2 (by simpa using hj) e1 e2⟩
        simp only [List.mem_cons, List.mem_append] at hc ⊢
        rcases hc with hc | hc | hc
        · exact .inl hc
        · exact .inr (.inl hc)
        · exact .inr (.inr (.inr hc)))
  have f2 := few (nd_built h2) (fun x => decide (x.1 ∉ ks (builtF o (A ++ B)))) [k] (fun x hx hp => by
    obtain ⟨c, hc, rfl⟩ := built_mem.1 hx
    have hp := of_decide_eq_true hp
    rw [ks_built] at hp
    have hc1 : (lkF (o :: (A ++ k :: B)) o c).1 = c := rfl
    rw [hc1] at hp ⊢
    simp only [List.mem_cons, List.mem_append] at hc hp ⊢
    rcases hc with hc | hc | hc | hc
    · exact absurd (.inl hc) hp
    · exact absurd (.inr (.inl hc)) hp
    · exact .inl hc
    · exact absurd (.inr (.inr hc)) hp)
  unfold chgF
  simp only [List.length_cons, List.length_nil] at f1 f2
  omega
/-- one taken out: no more than three keys have other links -/
theorem chg_less (h1 : Right (o :: (A ++ B))) (h2 : Right (o :: (A ++ k :: B))) : chgF (builtF o (A ++ k :: B)) (builtF o (A ++ B)) ≤ 3 := by
  have f1 := few (nd_built h2) (fun x => decide (x ∉ builtF o (A ++ B))) [k, nthI (o :: (A ++ B)) A.length, nthI (o :: (A ++ B)) ((A.length + 1) % ((A ++ B).length + 1))] (fun x hx hp => by
    obtain ⟨c, hc, rfl⟩ := built_mem.1 hx
    have hp := of_decide_eq_true hp
    have hc1 : (lkF (o :: (A ++ k :: B)) o c).1 = c := rfl
    rw [hc1]
    by_cases hk : c = k
    · rw [hk]; exact List.mem_cons_self ..
    · have hc2 : c ∈ o :: (A ++ B) := by
        simp only [List.mem_cons, List.mem_append] at hc ⊢
        rcases hc with hc | hc | hc | hc
        · exact .inl hc
        · exact .inr (.inl hc)
        · exact absurd hc hk
        · exact .inr (.inr hc)
      obtain ⟨j, hj, rfl⟩ := mem_nth hc2
      by_cases e1 : j = A.length
      · rw [e1]; exact List.mem_cons_of_mem _ (List.mem_cons_self ..)
      · by_cases e2 : j = (A.length + 1) % ((A ++ B).length + 1)
        · rw [← e2]; exact List.mem_cons_of_mem _ (List.mem_cons_of_mem _ (List.mem_cons_self ..))
        · exfalso
          apply hp
          rw [built_mem]
          exact ⟨_, hc2, (same_lk h1 h2 (by simpa using hj) e1 e2).symm⟩)
  have f2 := few (nd_built h1) (fun x => decide (x.1 ∉ ks (builtF o (A ++ k :: B)))) [] (fun x hx hp => by
    exfalso
    obtain ⟨c, hc, rfl⟩ := built_mem.1 hx
    have hp := of_decide_eq_true hp
    rw [ks_built] at hp
    have hc1 : (lkF (o :: (A ++ B)) o c).1 = c := rfl
    rw [hc1] at hp
    simp only [List.mem_cons, List.mem_append] at hc hp
    rcases hc with hc | hc | hc
    · exact hp (.inl hc)
    · exact hp (.inr (.inl hc))
    · exact hp (.inr (.inr (.inr hc))))
  unfold chgF
  simp only [List.length_cons, List.length_nil] at f1 f2
  omega
end
theorem chg_ins {o : Int} {ms : List Int} {a k : Int} (h : Right (o :: ms)) (hk : keyB k = true) (hn : k ∉ o :: ms) (hl : ms.length + 1 < 500) : chgF (builtF o ms) (builtF o (insF ms a k)) ≤ 3 := by
  have h2 := right_ins (a := a) h hk hn hl
  unfold insF at h2 ⊢
  generalize (idxI ms a + 1).toNat = p at *
  have e : ms = ms.take p ++ ms.drop p := (List.take_append_drop p ms).symm
  have h1 := h
  rw [e] at h1
  have := chg_more h1 h2
  rwa [← e] at this
theorem chg_rem {o : Int} {ms : List Int} {k : Int} (h : Right (o :: ms)) (hk : k ∈ ms) : chgF (builtF o ms) (builtF o (remF ms k)) ≤ 3 := by
  obtain ⟨A, B, rfl⟩ := List.append_of_mem hk
  have hnd := h.nodup
  rw [List.nodup_cons, List.nodup_append] at hnd
  have hA : k ∉ A := fun hx => hnd.2.2.2 k hx k (List.mem_cons_self ..) rfl
  have hB : k ∉ B := (List.nodup_cons.1 hnd.2.2.1).1
  have h1 := right_rem k h
  rw [remF_app A B k hA hB] at h1 ⊢
  exact chg_less h1 h
end Go.Proofs.Ythmcdlieglollaa
