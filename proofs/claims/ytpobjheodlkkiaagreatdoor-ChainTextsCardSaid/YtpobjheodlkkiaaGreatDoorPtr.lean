/- Maps of the call's own from numbers to pointers of whole blocks. -/
import Derived.Test.YtpobjheodlkkiaaGreatDoorGenB
import Derived.Maps.OwnSet
import Derived.Maps.OwnOps
namespace Go.Proofs.YtpobjheodlkkiaaGreatDoor
open Go.RowKit Go.Maps
set_option linter.unusedVariables false
set_option maxRecDepth 20000
set_option linter.unusedSimpArgs false
set_option linter.unusedSectionVars false

theorem keyedI : Keyed Tryz.prog 3 := int_keyed Tryz.underlying3
/-- how a pointer reads: the block's number -/
def ptrElem (v : Value) : Option (DataW Unit × List MemPlace) :=
  match v with
  | .pointer none => some (.nil, [])
  | .pointer (some a) => if a.off = 0 ∧ a.spot = none then some (.lit (.int .i64 a.block), []) else none
  | _ => none
theorem ptrElem_mk (g : Nat) : ptrElem (.pointer (some ⟨g, 0, none⟩)) = some (.lit (.int .i64 g), []) := by simp [ptrElem]
theorem ptrElem_inv {v : Value} {g : Nat} {ps : List MemPlace} (h : ptrElem v = some (.lit (.int .i64 g), ps)) : v = .pointer (some ⟨g, 0, none⟩) := by
  unfold ptrElem at h
  split at h
  · cases h
  · rename_i a
    split at h
    · rename_i hc
      obtain ⟨b, off, spot⟩ := a
      simp at h hc
      obtain ⟨rfl, rfl⟩ := hc
      rw [show b = g from by omega]
    · cases h
  · cases h
/-- block b is a map in which the keys of l have pointers to the blocks told -/
def PtrM (w : World) (b : Nat) (l : List (Int × Nat)) : Prop :=
  ∃ (D : DataW Unit) (n : Nat), n ≤ l.length ∧ w.ownsMap Tryz.prog 3 ptrElem b n D ∧ (∀ x g, (x, g) ∈ l → ∀ z, D.atKey (.int .i64 x) z = .lit (.int .i64 g))
theorem PtrM.made (w : World) : PtrM (w.alloc (.map #[] 0)) w.heap.size [] :=
  ⟨.map [], 0, by simp, World.ownsMap_made _ _ _ _, fun x g h => by simp at h⟩
theorem PtrM.same {w w' : World} {b : Nat} {l : List (Int × Nat)} (h : PtrM w b l) (he : w'.heap[b]? = w.heap[b]?) : PtrM w' b l := by
  obtain ⟨D, n, hn, ⟨es, clock, hb, r'⟩, r⟩ := h
  exact ⟨D, n, hn, ⟨es, clock, he.trans hb, r'⟩, r⟩
theorem PtrM.lt {w : World} {b : Nat} {l : List (Int × Nat)} (h : PtrM w b l) : b < w.heap.size := by obtain ⟨D, n, _, h, _⟩ := h; exact h.lt
theorem PtrM.ext {w w' : World} {b : Nat} {l : List (Int × Nat)} (h : PtrM w b l) (he : Ext w w') : PtrM w' b l := h.same (he.block h.lt)
theorem PtrM.isMap {w : World} {b : Nat} {l : List (Int × Nat)} (h : PtrM w b l) : ∃ es c, w.heap[b]? = some (.map es c) := by
  obtain ⟨D, n, hn, ⟨es, clock, hb, r'⟩, r⟩ := h
  exact ⟨es, clock, hb⟩
theorem PtrM.look {w : World} {b : Nat} {l : List (Int × Nat)} (h : PtrM w b l) {t e : TypeId} (ht : Tryz.prog.underlying t = some (.map 3 e)) (hz : (zeroValue e).run Tryz.prog w = .ok (.pointer none) w) {x : Int} {g : Nat} (hx : (x, g) ∈ l) (hkey : keyOf Tryz.prog 3 (.int .i64 x) = some (.int .i64 x)) :
    (Instr.lookup t (.map (some b)) (.int .i64 x) false).run Tryz.prog w = .ok (.pointer (some ⟨g, 0, none⟩)) w := by
  obtain ⟨D, n, hn, hown, hh⟩ := h
  obtain ⟨v, ps, hrun, hv⟩ := hown.lookup keyedI ht hz (zd := .nil) (zp := []) rfl hkey
  rw [hh x g hx] at hv
  rw [hrun, ptrElem_inv hv]
theorem PtrM.store {w : World} {b : Nat} {l : List (Int × Nat)} (h : PtrM w b l) {t e : TypeId} (ht : Tryz.prog.underlying t = some (.map 3 e)) (hn : l.length < 9223372036854775807) {x : Int} {g : Nat} (hx : ∀ y gy, (y, gy) ∈ l → y ≠ x) (hkey : keyOf Tryz.prog 3 (.int .i64 x) = some (.int .i64 x)) :
    ∃ w', (Instr.mapUpdate t (.map (some b)) (.int .i64 x) (.pointer (some ⟨g, 0, none⟩))).run Tryz.prog w = .ok () w' ∧ PtrM w' b (l ++ [(x, g)]) ∧ w.grownBy w' (some b) := by
  obtain ⟨D, n, hnl, hown, hh⟩ := h
  have hT := hown.tidy keyedI
  obtain ⟨w', hrun, hown', hg⟩ := hown.update keyedI ht (Nat.lt_of_le_of_lt hnl hn) hkey (ptrElem_mk g)
  refine ⟨w', hrun, ⟨_, n + 1, by simp; omega, hown', fun y gy hy z => ?_⟩, hg⟩
  rw [List.mem_append] at hy
  rcases hy with hy | hy
  · rw [atKey_put_other (fun e => hx y gy hy (by simpa using e))]
    exact hh y gy hy z
  · simp at hy
    obtain ⟨rfl, rfl⟩ := hy
    exact atKey_put_same hT.isMap (by trivial) _ _
/-- the store at a step of a region that draws -/
theorem step_store_ptr {w : World} {ops : Array Oper} {o : Oper} {a : Act} {K : Act → World → Prop} {Q : Exit → Act → World → Prop} {F : Prop} (hgd : o.guard = none) (m x v : Operand) (t : TypeId) (hop : o.op = Op.mapUpdate t m x v)
    {b : Nat} {l : List (Int × Nat)} (h : PtrM w b l) {e : TypeId} (ht : Tryz.prog.underlying t = some (.map 3 e)) (hn : l.length < 9223372036854775807) (y : Int) (g : Nat) (hm : a.eval m = .map (some b)) (hx : a.eval x = .int .i64 y) (hv : a.eval v = .pointer (some ⟨g, 0, none⟩)) (hne : ∀ z gz, (z, gz) ∈ l → z ≠ y) (hkey : keyOf Tryz.prog 3 (.int .i64 y) = some (.int .i64 y))
    (hK : ∀ w', PtrM w' b (l ++ [(y, g)]) → w.grownBy w' (some b) → K (a.put o.dst undef) w') : if Region.wanted o (yielded ops a.tmps) = true then Oper.wp Tryz.prog o a w K Q else F := by
  rw [if_pos (by simp [Region.wanted, hgd])]
  obtain ⟨w', hrun, h1, h2⟩ := h.store ht hn (g := g) hne hkey
  unfold Oper.wp
  simp [execOp, hop, hm, hx, hv, hrun, Result.andThen]
  exact hK w' h1 h2
end Go.Proofs.YtpobjheodlkkiaaGreatDoor
