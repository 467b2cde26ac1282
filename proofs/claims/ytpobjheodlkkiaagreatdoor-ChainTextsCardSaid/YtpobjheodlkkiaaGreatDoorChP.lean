/- Rings: the reference's right, Ascending. -/
import Derived.Test.YtpobjheodlkkiaaGreatDoorChO
import Derived.Test.YtpobjheodlkkiaaGreatDoorGenB
namespace Go.Proofs.YtpobjheodlkkiaaGreatDoor
open Go.RowKit Go.Sort
set_option linter.unusedVariables false
set_option maxRecDepth 20000
set_option linter.unusedSimpArgs false
set_option linter.unusedSectionVars false
set_option maxRecDepth 20000
attribute [local go_sem] Oper.semAt_some

/-- keys, all different -/
def okB (l : List Int) : Bool := l.all keyB && decide l.Nodup
theorem okB_iff {l : List Int} : okB l = true ↔ (∀ k ∈ l, keyB k = true) ∧ l.Nodup := by simp [okB]
theorem okB_right {l : List Int} : Right l ↔ okB l = true ∧ l.length ≤ 500 :=
  ⟨fun h => ⟨okB_iff.2 ⟨h.keys, h.nodup⟩, h.le⟩, fun h => ⟨(okB_iff.1 h.1).1, (okB_iff.1 h.1).2, h.2⟩⟩
theorem idxI_le : ∀ (l : List Int) (i : Nat), i < l.length → 0 ≤ idxI l (nthI l i) ∧ idxI l (nthI l i) ≤ i
  | [], i, h => by simp at h
  | x :: l, 0, h => by simp [idxI, nthI]
  | x :: l, i + 1, h => by
    have := idxI_le l i (by simpa using h)
    rw [show nthI (x :: l) (i + 1) = nthI l i from rfl]
    simp only [idxI]
    split
    · omega
    · rw [if_neg (by omega)]; omega
theorem nodup_of_first {l : List Int} (h : ∀ i : Nat, i < l.length → (i : Int) ≤ idxI l (nthI l i)) : l.Nodup := by
  rw [List.nodup_iff_pairwise_ne, List.pairwise_iff_getElem]
  intro i j hi hj hij e
  have h1 := h j hj
  have h2 := idxI_le l i hi
  rw [nthI_get hi, e, ← nthI_get hj] at h2
  omega
theorem OwnG.lit {α : Type} {cs : α → List Value} {e : TypeId} {k : Nat} (hk : ∀ x, (cs x).length = k) {w : World} {base : Nat} (l : List α) {C : Array Value} {n : Nat} (hC : C = (l.flatMap cs).toArray) (hn : n = l.length) (hb : base ≤ w.heap.size) (hm : l.length ≤ 9223372036854775807) : OwnG cs e k (w.alloc (.cells C e)) base (.slice (some ⟨w.heap.size, 0, none⟩) n n) l := by
  subst hC hn
  have := World.ownsRow_lit (e := e) (size := k) w (l.flatMap cs).toArray l.length hb (by unfold maxLen; omega) (by simpa using flat_len hk l)
  unfold OwnG
  simpa using this

theorem ins_take {l : List Int} {k : Nat} (hk : k < l.length) : l.take (k + 1) = l.take k ++ [nthI l k] := by
  rw [List.take_add_one]
  congr 1
  unfold nthI
  simp [List.getD_eq_getElem?_getD, hk]
theorem ins_sorted {out l : List Int} {k a : Nat} (hk : k < l.length) (ha : a ≤ out.length) (hs : out.Pairwise (· ≤ ·)) (hp : out.Perm (l.take k)) (hlo : ∀ j, j < a → nthI out j ≤ nthI l k) (hhi : a < out.length → nthI l k < nthI out a) :
    (out.take a ++ [nthI l k] ++ out.drop a).Pairwise (· ≤ ·) ∧ (out.take a ++ [nthI l k] ++ out.drop a).Perm (l.take (k + 1)) ∧ (out.take a ++ [nthI l k] ++ out.drop a).length = k + 1 := by
  generalize hx : nthI l k = x at *
  have hpw := List.pairwise_iff_getElem.1 hs
  have hlen := hp.length_eq
  rw [List.length_take] at hlen
  have hP : (out.take a ++ [x] ++ out.drop a).Perm (l.take (k + 1)) := by
    rw [ins_take hk, hx]
    have h1 : (out.take a ++ [x] ++ out.drop a).Perm (out.take a ++ out.drop a ++ [x]) := by
      rw [List.append_assoc, List.append_assoc]
      exact (List.perm_append_comm).append_left _
    rw [List.take_append_drop] at h1
    exact h1.trans (hp.append_right _)
  refine ⟨?_, hP, by rw [hP.length_eq, List.length_take]; omega⟩
  rw [List.append_assoc, List.pairwise_append]
  have hd : ∀ y ∈ out.drop a, x < y := by
    intro y hy
    obtain ⟨i, hi, rfl⟩ := List.getElem_of_mem hy
    rw [List.length_drop] at hi
    rw [List.getElem_drop]
    have h0 := hhi (by omega)
    rw [nthI_get (by omega)] at h0
    rcases Nat.eq_zero_or_pos i with rfl | h
    · simpa using h0
    · have := hpw a (a + i) (by omega) (by omega) (by omega)
      omega
  have ht : ∀ y ∈ out.take a, y ≤ x := by
    intro y hy
    obtain ⟨i, hi, rfl⟩ := List.getElem_of_mem hy
    rw [List.length_take] at hi
    rw [List.getElem_take]
    have := hlo i (by omega)
    rw [nthI_get (by omega)] at this
    exact this
  refine ⟨List.Pairwise.sublist (List.take_sublist _ _) hs, ?_, ?_⟩
  · rw [List.singleton_append, List.pairwise_cons]
    exact ⟨fun y hy => by have := hd y hy; omega, List.Pairwise.sublist (List.drop_sublist _ _) hs⟩
  · intro y hy z hz
    rw [List.singleton_append, List.mem_cons] at hz
    have h1 := ht y hy
    rcases hz with rfl | hz
    · exact h1
    · have := hd z hz; omega

end Go.Proofs.YtpobjheodlkkiaaGreatDoor
