/- Arrays of the call's own: an outer row of slices, each with a block of its own. -/
import Derived.Test.YtgdbhmdhonnmgaaDoorArA
import Derived.Test.YtgdbhmdhonnmgaaDoorInsI
import Derived.Test.YtgdbhmdhonnmgaaDoorInsJ
namespace Go.Proofs.YtgdbhmdhonnmgaaDoor
open Go.RowKit
set_option linter.unusedVariables false
set_option maxRecDepth 20000
set_option maxRecDepth 20000

/-- a block of an array of the call's own: its number in the heap, its capacity, its keys -/
structure Row where
  h : Nat
  c : Nat
  l : List Int
def Row.v (r : Row) : Value := .slice (some ⟨r.h, 0, none⟩) r.l.length r.c
def intVs (l : List Int) : List Value := l.map (.int .i64)
theorem intVs_length (l : List Int) : (intVs l).length = l.length := by simp [intVs]
theorem intVs_one (l : List Int) : ∀ v ∈ intVs l, v.oneCell' = true := fun v hv => by
  simp only [intVs, List.mem_map] at hv
  obtain ⟨x, _, rfl⟩ := hv
  rfl
theorem rowVs_one (RR : List Row) : ∀ v ∈ RR.map Row.v, v.oneCell' = true := fun v hv => by
  simp only [List.mem_map] at hv
  obtain ⟨x, _, rfl⟩ := hv
  rfl
theorem intVs_take (l : List Int) (i : Nat) : (intVs l).take i = intVs (l.take i) := by simp [intVs, List.map_take]
theorem intVs_drop (l : List Int) (i : Nat) : (intVs l).drop i = intVs (l.drop i) := by simp [intVs, List.map_drop]
theorem intVs_ins (l : List Int) (i : Nat) (k : Int) : (intVs l).take i ++ .int .i64 k :: (intVs l).drop i = intVs (insI l i k) := by
  rw [intVs_take, intVs_drop]; simp [intVs, insI]
theorem intVs_get (l : List Int) (i : Nat) (h : i < l.length) : (intVs l)[i]? = some (.int .i64 (nthI l i)) := by
  simp [intVs, nthI, List.getD_eq_getElem?_getD, h]
def nthR (RR : List Row) (i : Nat) : Row := RR.getD i ⟨0, 0, []⟩
theorem nthR_drop {RR : List Row} {i : Nat} (h : i < RR.length) : RR.drop i = nthR RR i :: RR.drop (i + 1) := by
  rw [List.drop_eq_getElem_cons h]; simp [nthR, List.getD_eq_getElem?_getD, h]
theorem splitR {RR : List Row} {i : Nat} (h : i < RR.length) : RR = RR.take i ++ nthR RR i :: RR.drop (i + 1) := by
  rw [← nthR_drop h, List.take_append_drop]
theorem nthR_mem {RR : List Row} {i : Nat} (h : i < RR.length) : nthR RR i ∈ RR := by
  simp [nthR, List.getD_eq_getElem?_getD, h]
theorem nthA_map (RR : List Row) (i : Nat) (h : i < RR.length) : nthA (RR.map Row.l) i = (nthR RR i).l := by
  simp [nthA, nthR, List.getD_eq_getElem?_getD, h]

/-- the block is there, with the keys at its head -/
def InB (w : World) (base : Nat) (r : Row) : Prop :=
  base ≤ r.h ∧ ∃ cur, w.heap[r.h]? = some (.cells cur 3 (0, 0)) ∧ r.l.length ≤ r.c ∧ r.c ≤ cur.size ∧ r.c ≤ 9223372036854775807 ∧ cur.toList.take r.l.length = intVs r.l
theorem InB.lt {w : World} {base : Nat} {r : Row} (h : InB w base r) : r.h < w.heap.size := by
  obtain ⟨_, cur, h, _⟩ := h; exact (Array.getElem?_eq_some_iff.1 h).1
theorem InB.same {w w' : World} {base : Nat} {r : Row} (h : InB w base r) (e : w'.heap[r.h]? = w.heap[r.h]?) : InB w' base r := by
  obtain ⟨hb, cur, hc, rest⟩ := h; exact ⟨hb, cur, e.trans hc, rest⟩
theorem InB.cell {w : World} {base : Nat} {r : Row} (h : InB w base r) (i : Nat) (hi : i < r.l.length) : w.cell? ⟨r.h, i, none⟩ = some (.int .i64 (nthI r.l i)) := by
  obtain ⟨_, cur, hc, h1, h2, h3, ht⟩ := h
  have hi2 : i < cur.size := by omega
  have : cur.toList[i]? = some (.int .i64 (nthI r.l i)) := by
    have := intVs_get r.l i hi
    rw [← ht, List.getElem?_take, if_pos hi] at this
    exact this
  rw [Array.getElem?_toList] at this
  simp [World.cell?, hc, this]
theorem InB.slI {w : World} {base : Nat} {r : Row} (h : InB w base r) : SlI w (some ⟨r.h, 0, none⟩) r.c r.l := by
  refine ⟨fun i hi => ⟨r.h, 0, rfl, by rw [Nat.zero_add]; exact h.cell i hi⟩, ?_, ?_⟩
  · obtain ⟨_, cur, hc, h1, h2, h3, ht⟩ := h; exact h1
  · obtain ⟨_, cur, hc, h1, h2, h3, ht⟩ := h; exact h3
/-- the capacity is the whole block -/
def TightB (w : World) (base : Nat) (r : Row) : Prop := w.ownsRow base 3 1 r.v r.l.length (intVs r.l)
theorem TightB.inB {w : World} {base : Nat} {r : Row} (h : TightB w base r) : InB w base r := by
  rcases h.2 with ⟨h', _⟩ | ⟨g, cap, cur, h', hb, hg, hnc, hcm, hcs, ht⟩
  · simp [Row.v] at h'
  · simp only [Row.v, Value.slice.injEq, Option.some.injEq, Addr.mk.injEq, and_true, true_and] at h'
    obtain ⟨rfl, rfl⟩ := h'
    exact ⟨hb, cur, hg, hnc, by omega, by simpa only [maxLen] using hcm, by simpa using ht⟩
theorem TightB.same {w w' : World} {base : Nat} {r : Row} (h : TightB w base r) (e : w'.heap[r.h]? = w.heap[r.h]?) : TightB w' base r := by
  refine ⟨h.1, ?_⟩
  rcases h.2 with ⟨h', _⟩ | ⟨g, cap, cur, h', hb, hg, hnc, hcm, hcs, ht⟩
  · simp [Row.v] at h'
  · have h2 := h'
    simp only [Row.v, Value.slice.injEq, Option.some.injEq, Addr.mk.injEq, and_true, true_and] at h2
    obtain ⟨rfl, rfl⟩ := h2
    exact .inr ⟨_, _, cur, h', hb, e.trans hg, hnc, hcm, hcs, ht⟩

/-- an array of the call's own -/
structure OwnA (w : World) (base : Nat) (v : Value) (RR : List Row) : Prop where
  out : w.ownsRow base 31 1 v RR.length (RR.map Row.v)
  row : ∀ r ∈ RR, InB w base r
  apart : (RR.map Row.h).Nodup
  far : ∀ r ∈ RR, v.ownBlock ≠ some r.h
section
variable {w w' : World} {base : Nat} {v : Value} {RR : List Row}
theorem OwnA.kept {k : Nat} (h : OwnA w base v RR) (hu : Upd w k w') (h1 : v.ownBlock ≠ some k) (h2 : ∀ r ∈ RR, r.h ≠ k) : OwnA w' base v RR :=
  ⟨h.out.kept hu (.inr (fun e => h1 e)), fun r hr => (h.row r hr).same (hu.block _ (h.row r hr).lt (fun e => h2 r hr (by injection e))), h.apart, h.far⟩
theorem OwnA.ext (h : OwnA w base v RR) (hx : Ext w w') : OwnA w' base v RR :=
  ⟨rowExt h.out hx, fun r hr => (h.row r hr).same (hx.block (h.row r hr).lt), h.apart, h.far⟩
theorem OwnA.cases (h : OwnA w base v RR) : (v = .slice none 0 0 ∧ RR = []) ∨ ∃ g cap, v = .slice (some ⟨g, 0, none⟩) RR.length cap ∧ base ≤ g ∧ RR.length ≤ cap ∧ cap ≤ 9223372036854775807 := by
  rcases h.out.2 with ⟨h1, h2⟩ | ⟨g, cap, cur, h1, hb, _, hn, hm, _⟩
  · exact .inl ⟨h1, List.length_eq_zero_iff.1 h2⟩
  · exact .inr ⟨g, cap, h1, hb, hn, by simpa only [maxLen] using hm⟩
theorem OwnA.slA {g cap : Nat} (h : OwnA w base (.slice (some ⟨g, 0, none⟩) RR.length cap) RR) :
    SlA w (some ⟨g, 0, none⟩) cap (fun i => some ⟨(nthR RR i).h, 0, none⟩) (fun i => (nthR RR i).c) (RR.map Row.l) := by
  have hc : RR.length ≤ cap ∧ cap ≤ 9223372036854775807 := by
    rcases h.cases with ⟨h1, _⟩ | ⟨g', cap', h1, _, h2, h3⟩
    · simp at h1
    · simp only [Value.slice.injEq, Option.some.injEq, Addr.mk.injEq, and_true, true_and] at h1
      omega
  refine ⟨fun i hi => ⟨g, 0, rfl, ?_⟩, fun i hi => ?_, by simp; omega, hc.2⟩
  · simp at hi
    rw [Nat.zero_add, nthA_map RR i hi]
    have := h.out.cellAt i (by omega)
    rw [this]
    simp [nthR, List.getD_eq_getElem?_getD, hi, Row.v]
  · simp at hi
    rw [nthA_map RR i hi]
    exact (h.row _ (nthR_mem hi)).slI
/-- one block is changed, and its slice stored -/
theorem OwnA.set_ {g cap n : Nat} {A B : List Row} {r r' : Row} {w1 : World} (h : OwnA w base (.slice (some ⟨g, 0, none⟩) n cap) (A ++ r :: B)) (hg : w.grownBy w1 (some r.h)) (hr : InB w1 base r') (hh : r'.h = r.h ∨ r'.h = w.heap.size) :
    OwnA (w1.setCell ⟨g, A.length, none⟩ r'.v) base (.slice (some ⟨g, 0, none⟩) n cap) (A ++ r' :: B) := by
  have hgl := (h.out.lt g rfl).2
  have hn : n = (A ++ r :: B).length := by
    rcases h.cases with ⟨h1, _⟩ | ⟨g', cap', h1, _⟩
    · simp at h1
    · simp only [Value.slice.injEq] at h1
      exact h1.2.1
  subst hn
  have hrg : r.h ≠ g := fun e => h.far r (by simp) (by rw [e]; rfl)
  have hr'g : r'.h ≠ g := by rcases hh with e | e <;> rw [e] <;> omega
  have hap := h.apart
  rw [List.map_append, List.map_cons, List.nodup_append, List.nodup_cons] at hap
  obtain ⟨hA, ⟨hrB, hB⟩, hAB⟩ := hap
  have hlA : ∀ x ∈ A, x.h < w.heap.size := fun x hx => (h.row x (by simp [hx])).lt
  have hlB : ∀ x ∈ B, x.h < w.heap.size := fun x hx => (h.row x (by simp [hx])).lt
  have hneA : ∀ x ∈ A, x.h ≠ r'.h := fun x hx e => by
    rcases hh with e' | e'
    · exact hAB x.h (by simp; exact ⟨x, hx, rfl⟩) r.h (by simp) (by rw [e, e'])
    · have := hlA x hx; omega
  have hneB : ∀ x ∈ B, x.h ≠ r'.h := fun x hx e => by
    rcases hh with e' | e'
    · exact hrB (by simp; exact ⟨x, hx, by rw [e, e']⟩)
    · have := hlB x hx; omega
  have far1 : ∀ x ∈ A ++ r' :: B, x.h ≠ g := fun x hx => by
    simp only [List.mem_append, List.mem_cons] at hx
    rcases hx with hx | rfl | hx
    · exact fun e => h.far x (by simp [hx]) (by rw [e]; rfl)
    · exact hr'g
    · exact fun e => h.far x (by simp [hx]) (by rw [e]; rfl)
  have old : ∀ x ∈ A ++ r :: B, x.h ≠ r.h → InB (w1.setCell ⟨g, A.length, none⟩ r'.v) base x := fun x hx hne => by
    have hi := h.row x hx
    refine hi.same ((Below.heap_setCell _ _ _ _ ?_).trans (hg.block _ hi.lt (fun e => hne (by injection e))))
    exact fun e => h.far x hx (by rw [e]; rfl)
  have ho1 : w1.ownsRow base 31 1 (.slice (some ⟨g, 0, none⟩) (A ++ r :: B).length cap) (A ++ r :: B).length ((A ++ r :: B).map Row.v) := h.out.kept hg (.inr (by simp [Value.ownBlock]; exact fun e => hrg e.symm))
  have ho2 := (ho1.stored A.length r'.v).1
  refine ⟨?_, fun x hx => ?_, ?_, fun x hx e => far1 x hx (by simpa [Value.ownBlock] using e.symm)⟩
  · have e1 : ((A ++ r :: B).map Row.v).set A.length r'.v = (A ++ r' :: B).map Row.v := by
      simp only [List.map_append, List.map_cons]
      rw [List.set_append_right _ _ (by simp)]
      simp
    rw [e1] at ho2
    have e2 : (A ++ r' :: B).length = (A ++ r :: B).length := by simp
    rw [e2]
    exact ho2
  · simp only [List.mem_append, List.mem_cons] at hx
    rcases hx with hx | rfl | hx
    · exact old x (by simp [hx]) (fun e => hAB x.h (by simp; exact ⟨x, hx, rfl⟩) r.h (by simp) e)
    · exact hr.same (Below.heap_setCell _ _ _ _ hr'g)
    · exact old x (by simp [hx]) (fun e => hrB (by simp; exact ⟨x, hx, e⟩))
  · rw [List.map_append, List.map_cons, List.nodup_append, List.nodup_cons]
    refine ⟨hA, ⟨fun hm => ?_, hB⟩, fun x hx y hy e => ?_⟩
    · simp only [List.mem_map] at hm
      obtain ⟨x, hx, e⟩ := hm
      exact hneB x hx e
    · subst e
      rcases List.mem_cons.1 hy with rfl | hy
      · simp only [List.mem_map] at hx
        obtain ⟨z, hz, e⟩ := hx
        exact hneA z hz e
      · exact hAB x hx x (by simp [hy]) rfl
/-- a further block is put between -/
theorem OwnA.ins {A B : List Row} {r' : Row} {v' : Value} (h : OwnA w base v (A ++ B)) (hr : InB w base r') (hne : ∀ x ∈ A ++ B, x.h ≠ r'.h) (hnv : v.ownBlock ≠ some r'.h) (ho : w'.ownsRow base 31 1 v' ((A ++ B).length + 1) (A.map Row.v ++ r'.v :: B.map Row.v))
    (hg : w.grownBy w' v.ownBlock) (hb : v'.ownBlock = v.ownBlock ∨ ∃ k, v'.ownBlock = some k ∧ w.heap.size ≤ k) : OwnA w' base v' (A ++ r' :: B) := by
  have old : ∀ x ∈ A ++ B, InB w' base x := fun x hx => (h.row x hx).same (hg.block _ (h.row x hx).lt (fun e => h.far x hx e.symm))
  have hap := h.apart
  rw [List.map_append, List.nodup_append] at hap
  obtain ⟨hA, hB, hAB⟩ := hap
  refine ⟨?_, fun x hx => ?_, ?_, fun x hx => ?_⟩
  · have e1 : (A ++ r' :: B).length = (A ++ B).length + 1 := by simp; omega
    rw [e1, List.map_append, List.map_cons]
    exact ho
  · simp only [List.mem_append, List.mem_cons] at hx
    rcases hx with hx | rfl | hx
    · exact old x (by simp [hx])
    · exact hr.same (hg.block _ hr.lt (fun e => hnv e.symm))
    · exact old x (by simp [hx])
  · rw [List.map_append, List.map_cons, List.nodup_append, List.nodup_cons]
    refine ⟨hA, ⟨fun hm => ?_, hB⟩, fun x hx y hy e => ?_⟩
    · simp only [List.mem_map] at hm
      obtain ⟨x, hx, e⟩ := hm
      exact hne x (by simp [hx]) e
    · subst e
      rcases List.mem_cons.1 hy with rfl | hy
      · simp only [List.mem_map] at hx
        obtain ⟨z, hz, e⟩ := hx
        exact hne z (by simp [hz]) e
      · exact hAB x hx x hy rfl
  · have hxl : x.h < w.heap.size ∧ v.ownBlock ≠ some x.h := by
      simp only [List.mem_append, List.mem_cons] at hx
      rcases hx with hx | rfl | hx
      · exact ⟨(h.row x (by simp [hx])).lt, h.far x (by simp [hx])⟩
      · exact ⟨hr.lt, hnv⟩
      · exact ⟨(h.row x (by simp [hx])).lt, h.far x (by simp [hx])⟩
    rcases hb with e | ⟨k, e, hk⟩
    · rw [e]; exact hxl.2
    · rw [e]; simp; omega
end
end Go.Proofs.YtgdbhmdhonnmgaaDoor
