/- Words for memory that the contracts of this claim use: worlds that only grow, slices that read as lists. -/
import Derived.Test.YtpobjheodlkkiaaGreatDoorProg
import Derived.WalkKit
import Derived.ProofKit
import Derived.OpenShut
import Derived.LoopTactic
import Derived.Lib.Hide
import Derived.Lib.Strings
import Derived.Laws.CopyOwn
import Derived.Laws.BytesArg
import Derived.Laws.MakeOwn
import Derived.Lib.BufferWrite
import Derived.Deep.QuietTactic
import Derived.BigQuiet
import Derived.Deep.RegionHeld3
import Derived.Deep.Draws
namespace Go.Proofs.YtpobjheodlkkiaaGreatDoor
open Go.RowKit
set_option linter.unusedVariables false
set_option maxRecDepth 20000

/-- The world has only grown: all blocks that were there are as they were. -/
def Ext (w w' : World) : Prop := Below w.heap.size w w'
theorem Ext.refl (w : World) : Ext w w := Below.refl _ _
theorem Ext.trans {a b c : World} (h : Ext a b) (k : Ext b c) : Ext a c := Below.trans h (Below.mono k h.size)
theorem Ext.size {a b : World} (h : Ext a b) : a.heap.size ≤ b.heap.size := Below.size h
theorem Ext.drew {a b : World} (h : Ext a b) : Ext a b.drew := Below.drew h
theorem Ext.drewN {a b : World} (h : Ext a b) (n : Nat) : Ext a (b.drewN n) := ⟨h.os, h.tape, h.output, h.size, h.block⟩
theorem Ext.alloc {a b : World} (h : Ext a b) (o : Obj) : Ext a (b.alloc o) := Below.alloc h h.size o
theorem Ext.setCell {a b : World} (h : Ext a b) {p : Addr} (hp : a.heap.size ≤ p.block) (u : Value) : Ext a (b.setCell p u) := Below.setCell h hp u
theorem Ext.block {a b : World} (h : Ext a b) {k : Nat} (hk : k < a.heap.size) : b.heap[k]? = a.heap[k]? := Below.block h k hk
theorem block_lt {w : World} {a : Addr} {v : Value} (h : w.cell? a = some v) : a.block < w.heap.size := World.block_lt_of_cell? w a h
theorem Ext.cell {a b : World} (h : Ext a b) {p : Addr} {v : Value} (hc : a.cell? p = some v) : b.cell? p = some v := by
  rw [Below.cell h (block_lt hc)]; exact hc
theorem Ext.heap {a b : World} (h : Ext a b) {g : Nat} {o : Obj} (hg : a.heap[g]? = some o) : b.heap[g]? = some o := by
  have hlt : g < a.heap.size := by
    rcases Nat.lt_or_ge g a.heap.size with hlt | hge
    · exact hlt
    · rw [Array.getElem?_eq_none hge] at hg; cases hg
  rw [h.block hlt]; exact hg

theorem ret_int {k : IntKind} {a b : Int} (h : a = b) : Ending.returned (.int k a) = .returned (.int k b) := by rw [h]
theorem ret_bool {a b : Bool} (h : a = b) : Ending.returned (.bool a) = .returned (.bool b) := by rw [h]

theorem quiet_add_left {P : Program} {f : FuncId} {args : Array Value} {w : World} {a n : Nat} {v : Value}
    (h : Calls P f args (w.drewN (a + n)) fun e w' => e = .returned v ∧ w.drewN (a + n) = w') :
    Calls P f args (w.drewN (a + n)) fun e w'' => e = .returned v ∧ ∃ m, w'' = w.drewN (a + m) :=
  h.mono fun _ _ ⟨he, hm⟩ => ⟨he, n, hm.symm⟩
theorem quiet_left {P : Program} {f : FuncId} {args : Array Value} {w : World} {n : Nat} {v : Value}
    (h : Calls P f args (w.drewN n) fun e w' => e = .returned v ∧ w.drewN n = w') : Calls P f args (w.drewN n) fun e w'' => e = .returned v ∧ ∃ m, w'' = w.drewN m :=
  h.mono fun _ _ ⟨he, hm⟩ => ⟨he, n, hm.symm⟩
theorem quiet_add_n {P : Program} {f : FuncId} {args : Array Value} {w : World} {a n : Nat} {v : Value}
    (h : Calls P f args (w.drewN (a + n)) fun e w' => e = .returned v ∧ ∃ m, w' = (w.drewN (a + n)).drewN m) :
    Calls P f args (w.drewN (a + n)) fun e w'' => e = .returned v ∧ ∃ m, w'' = w.drewN (a + m) :=
  h.mono fun _ _ ⟨he, m, hm⟩ => ⟨he, n + m, by rw [hm, World.drewN_drewN, Nat.add_assoc]⟩
theorem quiet_n {P : Program} {f : FuncId} {args : Array Value} {w : World} {n : Nat} {v : Value}
    (h : Calls P f args (w.drewN n) fun e w' => e = .returned v ∧ ∃ m, w' = (w.drewN n).drewN m) :
    Calls P f args (w.drewN n) fun e w'' => e = .returned v ∧ ∃ m, w'' = w.drewN m :=
  h.mono fun _ _ ⟨he, m, hm⟩ => ⟨he, n + m, by rw [hm, World.drewN_drewN]⟩

/-- byte i of a text as a number; 0 beyond its end -/
def bt (p : ByteArray) (i : Nat) : Nat := (p.data.toList.getD i 0).toNat
theorem bt_lt (p : ByteArray) (i : Nat) : bt p i < 256 := UInt8.toNat_lt _
theorem get_bt (p : ByteArray) (i : Nat) (h : i < p.size) : (p[i]'h).toNat = bt p i := by
  have h' : i < p.data.toList.length := by simpa using h
  unfold bt
  rw [List.getD_eq_getElem?_getD, List.getElem?_eq_getElem h']
  rfl
theorem wrap_byte (n : Nat) (h : n < 256) : wrap64 (n : Int) = n := IntWalk.wrap64_in _ ⟨by omega, by omega⟩

theorem toList_nil (s : ByteArray) : s.toList = [] ↔ s.size = 0 := by
  rw [Lib.toList_data, Lib.size_eq]
  exact List.length_eq_zero_iff.symm

/-- A block of bytes of the call's own, known whole. -/
def BB (w : World) (g : Nat) (l : List UInt8) : Prop := w.heap[g]? = some (.cells (l.map fun b => Value.int .u8 b.toNat).toArray 5 (0, 0))
theorem BB.ext {w w' : World} {g : Nat} {l : List UInt8} (h : BB w g l) (he : Ext w w') : BB w' g l := he.heap h
theorem BB.drew {w : World} {g : Nat} {l : List UInt8} (h : BB w g l) : BB w.drew g l := h
theorem BB.lt {w : World} {g : Nat} {l : List UInt8} (h : BB w g l) : g < w.heap.size := by
  rcases Nat.lt_or_ge g w.heap.size with hlt | hge
  · exact hlt
  · unfold BB at h; rw [Array.getElem?_eq_none hge] at h; cases h
theorem BB.cell {w : World} {g : Nat} {l : List UInt8} (h : BB w g l) (i : Nat) (hi : i < l.length) : w.cell? ⟨g, i, none⟩ = some (.int .u8 l[i].toNat) := by
  unfold BB at h
  simp [World.cell?, h, hi]
theorem BB.frozen {w : World} {g : Nat} {l : List UInt8} (h : BB w g l) (i : Nat) : w.frozen? ⟨g, i, none⟩ = false := by
  unfold BB at h
  simp [World.frozen?, h]
theorem BB.set_ {w : World} {g : Nat} {l : List UInt8} (h : BB w g l) (i : Nat) (b : UInt8) : BB (w.setCell ⟨g, i, none⟩ (.int .u8 b.toNat)) g (l.set i b) := by
  unfold BB at h ⊢
  simp [World.setCell, Array.getElem?_modify, h]
theorem BB.new_ {w : World} {C : Array Value} {l : List UInt8} (h : C = (l.map fun b => Value.int .u8 b.toNat).toArray) : BB (w.alloc (.cells C 5)) w.heap.size l := by
  subst h
  exact heap_alloc_new w _
theorem BB.alloc {w : World} {g : Nat} {l : List UInt8} (h : BB w g l) (o : Obj) : BB (w.alloc o) g l := (Below.heap_alloc w o g h.lt).trans h
theorem BB.far {w : World} {g : Nat} {l : List UInt8} (h : BB w g l) {p : Addr} (hp : g ≠ p.block) (u : Value) : BB (w.setCell p u) g l :=
  (Below.heap_setCell w p u g hp).trans h

end Go.Proofs.YtpobjheodlkkiaaGreatDoor
