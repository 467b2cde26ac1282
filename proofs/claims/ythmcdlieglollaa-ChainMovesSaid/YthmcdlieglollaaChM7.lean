/- Rings: what has been gathered while a map of links is ranged over; a sort of numbers of the call's own. -/
import Derived.Test.YthmcdlieglollaaChM3
import Derived.Test.YthmcdlieglollaaChM4
namespace Go.Proofs.Ythmcdlieglollaa
open Go.RowKit
set_option linter.unusedVariables false
set_option linter.unusedSimpArgs false
set_option linter.unusedSectionVars false

theorem key_one {l : List Lk} (hd : (ks l).Nodup) {x y : Lk} (hx : x ∈ l) (hy : y ∈ l) (e : x.1 = y.1) : x = y := by
  obtain ⟨i, hi, e1⟩ := List.getElem_of_mem hx
  obtain ⟨j, hj, e2⟩ := List.getElem_of_mem hy
  rw [← nthL_get hi] at e1
  rw [← nthL_get hj] at e2
  have h1 : nthI (ks l) i = nthI (ks l) j := by rw [ks_at hi, ks_at hj, e1, e2, e]
  have := nodup_inj hd (by rw [ks_len]; exact hi) (by rw [ks_len]; exact hj) h1
  subst this
  rw [← e1, ← e2]
theorem nodup_of_ks {l : List Lk} (hd : (ks l).Nodup) : l.Nodup := by
  unfold ks at hd
  exact List.Pairwise.of_map (fun x : Lk => x.1) (fun a b h e => h (by rw [e])) hd
theorem count_nd {l : List Lk} (hd : l.Nodup) (x : Lk) : l.count x = if x ∈ l then 1 else 0 := by
  by_cases h : x ∈ l
  · rw [if_pos h]
    have h1 := List.nodup_iff_count.1 hd x
    have h2 := List.count_pos_iff.2 h
    omega
  · rw [if_neg h]; exact List.count_eq_zero.2 h
theorem chgK_mem {l m : List Lk} (hl : (ks l).Nodup) (hm : (ks m).Nodup) (z : Int) : z ∈ chgK l m ↔ ∃ y ∈ l ++ m, (l ++ m).count y = 1 ∧ y.1 = z := by
  have cl := fun x => count_nd (nodup_of_ks hl) x
  have cm := fun x => count_nd (nodup_of_ks hm) x
  unfold chgK
  rw [List.mem_append, mem_ks, mem_ks]
  constructor
  · rintro (⟨y, hy, rfl⟩ | ⟨y, hy, rfl⟩)
    · rw [List.mem_filter] at hy
      have h2 : y ∉ m := by simpa [outB] using hy.2
      exact ⟨y, List.mem_append_left _ hy.1, by rw [List.count_append, cl, cm, if_pos hy.1, if_neg h2], rfl⟩
    · rw [List.mem_filter] at hy
      have h2 : y.1 ∉ ks l := by simpa [outK] using hy.2
      have h3 : y ∉ l := fun h => h2 (mem_ks.2 ⟨y, h, rfl⟩)
      exact ⟨y, List.mem_append_right _ hy.1, by rw [List.count_append, cl, cm, if_neg h3, if_pos hy.1], rfl⟩
  · rintro ⟨y, hy, hc, rfl⟩
    rw [List.count_append, cl, cm] at hc
    by_cases h1 : y ∈ l
    · have h2 : y ∉ m := fun h => by rw [if_pos h1, if_pos h] at hc; omega
      exact .inl ⟨y, List.mem_filter.2 ⟨h1, by simpa [outB] using h2⟩, rfl⟩
    · have h2 : y ∈ m := by
        rcases List.mem_append.1 hy with h | h
        · exact absurd h h1
        · exact h
      by_cases h3 : y.1 ∈ ks l
      · obtain ⟨y', h4, h5⟩ := mem_ks.1 h3
        have h6 : y' ∉ m := fun h => h1 (by rw [← key_one hm h h2 h5]; exact h4)
        exact .inl ⟨y', List.mem_filter.2 ⟨h4, by simpa [outB] using h6⟩, h5⟩
      · exact .inr ⟨y, List.mem_filter.2 ⟨h2, by simpa [outK] using h3⟩, rfl⟩
theorem chgK_nodup {l m : List Lk} (hl : (ks l).Nodup) (hm : (ks m).Nodup) : (chgK l m).Nodup := by
  unfold chgK
  rw [List.nodup_append]
  refine ⟨(List.Sublist.map _ List.filter_sublist).nodup hl, (List.Sublist.map _ List.filter_sublist).nodup hm, fun a ha b hb e => ?_⟩
  obtain ⟨x, hx, rfl⟩ := mem_ks.1 ha
  obtain ⟨y, hy, rfl⟩ := mem_ks.1 hb
  rw [List.mem_filter] at hx hy
  have h2 : y.1 ∉ ks l := by simpa [outK] using hy.2
  exact h2 (by rw [← e]; exact mem_ks.2 ⟨x, hx.1, rfl⟩)
/-- what is gathered without repeats, sorted -/
theorem sort_chgK {l m : List Lk} (hl : (ks l).Nodup) (hm : (ks m).Nodup) {out : List Int} (hd : out.Nodup) (h : ∀ z, z ∈ out ↔ ∃ y ∈ l ++ m, (l ++ m).count y = 1 ∧ y.1 = z) : sortI out = sortI (chgK l m) := by
  have hp : out.Perm (chgK l m) := by
    rw [List.perm_ext_iff_of_nodup hd (chgK_nodup hl hm)]
    intro z
    rw [h, chgK_mem hl hm]
  exact sortI_eq (sortI_pair _) ((sortI_perm _).trans hp.symm)

open Go.RowKit Go.Maps Go.Sort
set_option linter.unusedVariables false
set_option linter.unusedSimpArgs false
set_option linter.unusedSectionVars false
set_option maxRecDepth 100000

/-- the keys of links that stand once and have come -/
def GotK (L : List Lk) (left : Lit → Bool) (lst : List Int) : Prop := ∀ z, z ∈ lst ↔ ∃ y ∈ L, L.count y = 1 ∧ y.1 = z ∧ left (mkL y) = false
theorem sameL {x y : Lk} (hx : OkK x) (hy : OkK y) : (mkL y).sameKey (mkL x) = decide (y = x) := by
  by_cases e : y = x
  · subst e; simp [mkL, Lit.sameKey]
  · rw [decide_eq_false e]
    exact sameKey_ne (fun h => e (mkL_inj hy hx h))
theorem GotK.yes {L : List Lk} {left : Lit → Bool} {lst : List Int} (h : GotK L left lst) (ok : ∀ x ∈ L, OkK x) {x : Lk} (hx : x ∈ L) (hc : L.count x = 1) : GotK L (fun z => left z && !z.sameKey (mkL x)) (lst ++ [x.1]) := by
  intro z
  rw [List.mem_append, List.mem_singleton, h]
  constructor
  · rintro (⟨y, hy, h1, h2, h3⟩ | rfl)
    · exact ⟨y, hy, h1, h2, by simp [h3]⟩
    · exact ⟨x, hx, hc, rfl, by simp [sameL (ok x hx) (ok x hx)]⟩
  · rintro ⟨y, hy, h1, h2, h3⟩
    simp only [sameL (ok x hx) (ok y hy), Bool.and_eq_false_iff, Bool.not_eq_false', decide_eq_true_eq] at h3
    rcases h3 with h3 | rfl
    · exact .inl ⟨y, hy, h1, h2, h3⟩
    · exact .inr h2.symm
theorem GotK.no {L : List Lk} {left : Lit → Bool} {lst : List Int} (h : GotK L left lst) (ok : ∀ x ∈ L, OkK x) {x : Lk} (hx : x ∈ L) (hc : L.count x ≠ 1) : GotK L (fun z => left z && !z.sameKey (mkL x)) lst := by
  intro z
  rw [h]
  constructor
  · rintro ⟨y, hy, h1, h2, h3⟩
    exact ⟨y, hy, h1, h2, by simp [h3]⟩
  · rintro ⟨y, hy, h1, h2, h3⟩
    simp only [sameL (ok x hx) (ok y hy), Bool.and_eq_false_iff, Bool.not_eq_false', decide_eq_true_eq] at h3
    rcases h3 with h3 | rfl
    · exact ⟨y, hy, h1, h2, h3⟩
    · exact absurd h1 hc
/-- the numbers that have come -/
def GotI (S : List Int) (left : Lit → Bool) (out : List Int) : Prop := out.Nodup ∧ ∀ z, z ∈ out ↔ z ∈ S ∧ left (.int .i64 z) = false
theorem sameI (x y : Int) : (Lit.int .i64 y).sameKey (.int .i64 x) = decide (y = x) := by simp [Lit.sameKey]
theorem GotI.step {S : List Int} {left : Lit → Bool} {out : List Int} (h : GotI S left out) {x : Int} (hx : x ∈ S) (hl : left (.int .i64 x) = true) : GotI S (fun z => left z && !z.sameKey (.int .i64 x)) (out ++ [x]) := by
  refine ⟨?_, fun z => ?_⟩
  · rw [List.nodup_append]
    refine ⟨h.1, by simp, fun a ha b hb e => ?_⟩
    rw [List.mem_singleton] at hb
    have := ((h.2 a).1 ha).2
    rw [e, hb, hl] at this
    cases this
  · rw [List.mem_append, List.mem_singleton, h.2]
    simp only [sameI, Bool.and_eq_false_iff, Bool.not_eq_false', decide_eq_true_eq]
    constructor
    · rintro (⟨h1, h2⟩ | rfl)
      · exact ⟨h1, .inl h2⟩
      · exact ⟨hx, .inr rfl⟩
    · rintro ⟨h1, h2 | rfl⟩
      · exact .inl ⟨h1, h2⟩
      · exact .inr rfl
theorem size_le {w : World} {k : TypeId} {R : Value → Option (DataW Unit × List MemPlace)} {b n : Nat} {D : DataW Unit} (h : w.ownsMap Try.prog k R b n D) : size D ≤ n := by
  obtain ⟨es, clock, hb, F, hs, rfl⟩ := h
  simp [size, length_sorted]
  exact hs
theorem ranges_same {w w' : World} {k : TypeId} {R : Value → Option (DataW Unit × List MemPlace)} {b r n : Nat} {D : DataW Unit} {left : Lit → Bool} {cnt : Nat} (h : w.ranges Try.prog k R b r n D left cnt) (hb : w'.heap[b]? = w.heap[b]?) (hr : w'.heap[r]? = w.heap[r]?) : w'.ranges Try.prog k R b r n D left cnt := by
  obtain ⟨es, clock, since, seen, c0, h1, F, hs, hD, h2, rest⟩ := h
  exact ⟨es, clock, since, seen, c0, hb.trans h1, F, hs, hD, hr.trans h2, rest⟩
theorem bool_elem {v : Value} {y : DataW Unit × List MemPlace} (hv : plainElem Try.prog 4 v = some y) : ∃ c : Bool, v = .bool c := by
  unfold plainElem at hv
  rw [Try.underlying4] at hv
  cases v <;> simp at hv
  exact ⟨_, rfl⟩
/-- slices.Sort of numbers of the call's own -/
theorem sort_own {w : World} {base : Nat} {v : Value} {zs : List Int} (ho : OwnI w base v zs) (hl : zs.length ≤ 100000) :
    Calls Try.prog 72 #[v] w fun e w' => e = .returned (.tuple #[]) ∧ OwnI w' base v (sortI zs) ∧ w.grownBy w' v.ownBlock := by
  rcases ho.2 with ⟨rfl, hz⟩ | ⟨gb, cap, cur, rfl, hbase, hgb, r1, r2, r3, r4⟩
  · obtain rfl : zs = [] := List.length_eq_zero_iff.1 hz
    refine (Try.slices_Sort_int_none none 0 _).mono ?_
    rintro e w2 ⟨rfl, rfl⟩
    exact ⟨rfl, by unfold sortI; rw [List.mergeSort_nil]; exact OwnG.nil _ _ _ _ _, rfl, rfl, rfl, Nat.le_refl _, fun _ _ _ => rfl⟩
  · rw [flat_ints] at r4
    have hH : Holds encZ w gb 0 zs.toArray := holds_of_block_i hgb (by simpa using r4)
    have hgl : gb < w.heap.size := (Array.getElem?_eq_some_iff.1 hgb).1
    refine (Try.slices_Sort_int gb 0 cap zs w hH hgl (by omega)).mono ?_
    rintro e w2 ⟨rfl, n2, os, rfl⟩
    refine ⟨rfl, ?_, grownBy_sorted_i _⟩
    have := ownsRow_sorted_i (w := w) (n := n2) (os := os) (ss := zs) (ts := sortI zs) (sortI_len zs) hbase hgb r1 r2 r3
    unfold OwnI OwnG
    rw [flat_ints, sortI_len]
    exact this
end Go.Proofs.Ythmcdlieglollaa
