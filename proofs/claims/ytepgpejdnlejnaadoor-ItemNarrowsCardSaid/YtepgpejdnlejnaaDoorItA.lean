/- Slices whose elements take some cells each, read: rows of values, items, names. -/
import Derived.Test.YtepgpejdnlejnaaDoorOps
namespace Go.Proofs.YtepgpejdnlejnaaDoor
open Go.RowKit
set_option linter.unusedVariables false
set_option linter.unusedSimpArgs false
set_option linter.unusedSectionVars false

/-- a slice of elements that lie in the cells 'cs' tells -/
structure SlG {α : Type} (cs : α → List Value) (w : World) (P : Option Addr) (cap : Nat) (l : List α) : Prop where
  at_ : ∀ (i : Nat) (x : α), l[i]? = some x → ∃ b off, P = some ⟨b, off, none⟩ ∧ ∀ (j : Nat) (v : Value), (cs x)[j]? = some v → w.cell? ⟨b, off + i * (cs x).length + j, none⟩ = some v
  le : l.length ≤ cap
  cap : cap ≤ 9223372036854775807
theorem SlG.ext {α : Type} {cs : α → List Value} {w w' : World} {P : Option Addr} {cap : Nat} {l : List α} (h : SlG cs w P cap l) (hx : Ext w w') : SlG cs w' P cap l :=
  ⟨fun i x hi => by obtain ⟨b, off, e, h1⟩ := h.at_ i x hi; exact ⟨b, off, e, fun j v hj => hx.cell (h1 j v hj)⟩, h.le, h.cap⟩
theorem SlG.nil {α : Type} (cs : α → List Value) (w : World) : SlG cs w none 0 [] := ⟨fun i x hi => by simp at hi, Nat.le_refl _, by omega⟩
theorem SlG.len {α : Type} {cs : α → List Value} {w : World} {P : Option Addr} {cap : Nat} {l : List α} (h : SlG cs w P cap l) : l.length ≤ 9223372036854775807 := Nat.le_trans h.le h.cap

/-- a value: its kind, its number, its text -/
abbrev Vl := Int × Int × ByteArray
def Vl.cells (x : Vl) : List Value := [.int .i64 x.1, .int .i64 x.2.1, .string x.2.2]
def Vl.v (x : Vl) : Value := .agg #[.int .i64 x.1, .int .i64 x.2.1, .string x.2.2]
/-- an item: its name, its kind, its least and its greatest number, its length -/
abbrev It := ByteArray × Int × Int × Int × Int
def It.cells (x : It) : List Value := [.string x.1, .int .i64 x.2.1, .int .i64 x.2.2.1, .int .i64 x.2.2.2.1, .int .i64 x.2.2.2.2]
def It.v (x : It) : Value := .agg #[.string x.1, .int .i64 x.2.1, .int .i64 x.2.2.1, .int .i64 x.2.2.2.1, .int .i64 x.2.2.2.2]
abbrev SlV := @SlG Vl Vl.cells
abbrev SlT := @SlG It It.cells
abbrev SlS := @SlG ByteArray (fun s => [.string s])
def nthV (l : List Vl) (i : Nat) : Vl := l.getD i (0, 0, ⟨#[]⟩)
def nthT (l : List It) (i : Nat) : It := l.getD i (⟨#[]⟩, 0, 0, 0, 0)
def nthS (l : List ByteArray) (i : Nat) : ByteArray := l.getD i ⟨#[]⟩
theorem nthV_some {l : List Vl} {i : Nat} (h : i < l.length) : l[i]? = some (nthV l i) := by simp [nthV, List.getD_eq_getElem?_getD, h]
theorem nthT_some {l : List It} {i : Nat} (h : i < l.length) : l[i]? = some (nthT l i) := by simp [nthT, List.getD_eq_getElem?_getD, h]
theorem nthS_some {l : List ByteArray} {i : Nat} (h : i < l.length) : l[i]? = some (nthS l i) := by simp [nthS, List.getD_eq_getElem?_getD, h]
theorem nthV_mem {l : List Vl} {i : Nat} (h : i < l.length) : nthV l i ∈ l := List.mem_of_getElem? (nthV_some h)
theorem nthT_mem {l : List It} {i : Nat} (h : i < l.length) : nthT l i ∈ l := List.mem_of_getElem? (nthT_some h)
theorem nthS_mem {l : List ByteArray} {i : Nat} (h : i < l.length) : nthS l i ∈ l := List.mem_of_getElem? (nthS_some h)
theorem SlG.valAt {w : World} {P : Option Addr} {cap : Nat} {l : List Vl} (h : SlV w P cap l) (i : Nat) (hi : i < l.length) :
    ∃ b off, P = some ⟨b, off, none⟩ ∧ w.cell? ⟨b, off + i * 3, none⟩ = some (.int .i64 (nthV l i).1) ∧ w.cell? ⟨b, off + i * 3 + 1, none⟩ = some (.int .i64 (nthV l i).2.1) ∧ w.cell? ⟨b, off + i * 3 + 2, none⟩ = some (.string (nthV l i).2.2) := by
  obtain ⟨b, off, e, h1⟩ := h.at_ i _ (nthV_some hi)
  exact ⟨b, off, e, h1 0 _ rfl, h1 1 _ rfl, h1 2 _ rfl⟩
theorem SlG.itemAt {w : World} {P : Option Addr} {cap : Nat} {l : List It} (h : SlT w P cap l) (i : Nat) (hi : i < l.length) :
    ∃ b off, P = some ⟨b, off, none⟩ ∧ w.cell? ⟨b, off + i * 5, none⟩ = some (.string (nthT l i).1) ∧ w.cell? ⟨b, off + i * 5 + 1, none⟩ = some (.int .i64 (nthT l i).2.1) ∧ w.cell? ⟨b, off + i * 5 + 2, none⟩ = some (.int .i64 (nthT l i).2.2.1) ∧
      w.cell? ⟨b, off + i * 5 + 3, none⟩ = some (.int .i64 (nthT l i).2.2.2.1) ∧ w.cell? ⟨b, off + i * 5 + 4, none⟩ = some (.int .i64 (nthT l i).2.2.2.2) := by
  obtain ⟨b, off, e, h1⟩ := h.at_ i _ (nthT_some hi)
  exact ⟨b, off, e, h1 0 _ rfl, h1 1 _ rfl, h1 2 _ rfl, h1 3 _ rfl, h1 4 _ rfl⟩
theorem SlG.nameAt {w : World} {P : Option Addr} {cap : Nat} {l : List ByteArray} (h : SlS w P cap l) (i : Nat) (hi : i < l.length) :
    ∃ b off, P = some ⟨b, off, none⟩ ∧ w.cell? ⟨b, off + i, none⟩ = some (.string (nthS l i)) := by
  obtain ⟨b, off, e, h1⟩ := h.at_ i _ (nthS_some hi)
  refine ⟨b, off, e, ?_⟩
  have := h1 0 _ rfl
  simpa using this
end Go.Proofs.YtepgpejdnlejnaaDoor
