/- Base; PcA; Ops; Gen (merged by group.py) -/
import Derived.Test.YtcbainmpikcfjaaProg
import Derived.WalkKit
import Derived.ProofKit
import Derived.OpenShut
import Derived.LoopTactic
import Derived.Lib.Hide
import Derived.Lib.Strings
import Derived.Laws.CopyOwn
import Derived.Laws.BytesArg
import Derived.Laws.MakeOwn
import Derived.Lib.BufferWrite
import Derived.Deep.QuietTactic
import Derived.BigQuiet
import Derived.Deep.RegionHeld3
import Derived.Deep.Draws
import Derived.Lib.AppendZeros
import Derived.Lib.SliceRun
import Derived.Laws.OwnMore
namespace Go.Proofs.Ytcbainmpikcfjaa
section
open Go.RowKit
set_option linter.unusedVariables false
set_option maxRecDepth 20000

/-- The world has only grown: all blocks that were there are as they were. -/
def Ext (w w' : World) : Prop := Below w.heap.size w w'
theorem Ext.refl (w : World) : Ext w w := Below.refl _ _
theorem Ext.trans {a b c : World} (h : Ext a b) (k : Ext b c) : Ext a c := Below.trans h (Below.mono k h.size)
theorem Ext.size {a b : World} (h : Ext a b) : a.heap.size ≤ b.heap.size := Below.size h
theorem Ext.drew {a b : World} (h : Ext a b) : Ext a b.drew := Below.drew h
theorem Ext.drewN {a b : World} (h : Ext a b) (n : Nat) : Ext a (b.drewN n) := ⟨h.os, h.tape, h.output, h.size, h.block⟩
theorem Ext.alloc {a b : World} (h : Ext a b) (o : Obj) : Ext a (b.alloc o) := Below.alloc h h.size o
theorem Ext.setCell {a b : World} (h : Ext a b) {p : Addr} (hp : a.heap.size ≤ p.block) (u : Value) : Ext a (b.setCell p u) := Below.setCell h hp u
theorem Ext.block {a b : World} (h : Ext a b) {k : Nat} (hk : k < a.heap.size) : b.heap[k]? = a.heap[k]? := Below.block h k hk
theorem block_lt {w : World} {a : Addr} {v : Value} (h : w.cell? a = some v) : a.block < w.heap.size := World.block_lt_of_cell? w a h
theorem Ext.cell {a b : World} (h : Ext a b) {p : Addr} {v : Value} (hc : a.cell? p = some v) : b.cell? p = some v := by
  rw [Below.cell h (block_lt hc)]; exact hc
theorem Ext.heap {a b : World} (h : Ext a b) {g : Nat} {o : Obj} (hg : a.heap[g]? = some o) : b.heap[g]? = some o := by
  have hlt : g < a.heap.size := by
    rcases Nat.lt_or_ge g a.heap.size with hlt | hge
    · exact hlt
    · rw [Array.getElem?_eq_none hge] at hg; cases hg
  rw [h.block hlt]; exact hg

theorem ret_int {k : IntKind} {a b : Int} (h : a = b) : Ending.returned (.int k a) = .returned (.int k b) := by rw [h]
theorem ret_bool {a b : Bool} (h : a = b) : Ending.returned (.bool a) = .returned (.bool b) := by rw [h]

theorem quiet_add_left {P : Program} {f : FuncId} {args : Array Value} {w : World} {a n : Nat} {v : Value}
    (h : Calls P f args (w.drewN (a + n)) fun e w' => e = .returned v ∧ w.drewN (a + n) = w') :
    Calls P f args (w.drewN (a + n)) fun e w'' => e = .returned v ∧ ∃ m, w'' = w.drewN (a + m) :=
  h.mono fun _ _ ⟨he, hm⟩ => ⟨he, n, hm.symm⟩
theorem quiet_left {P : Program} {f : FuncId} {args : Array Value} {w : World} {n : Nat} {v : Value}
    (h : Calls P f args (w.drewN n) fun e w' => e = .returned v ∧ w.drewN n = w') : Calls P f args (w.drewN n) fun e w'' => e = .returned v ∧ ∃ m, w'' = w.drewN m :=
  h.mono fun _ _ ⟨he, hm⟩ => ⟨he, n, hm.symm⟩
theorem quiet_add_n {P : Program} {f : FuncId} {args : Array Value} {w : World} {a n : Nat} {v : Value}
    (h : Calls P f args (w.drewN (a + n)) fun e w' => e = .returned v ∧ ∃ m, w' = (w.drewN (a + n)).drewN m) :
    Calls P f args (w.drewN (a + n)) fun e w'' => e = .returned v ∧ ∃ m, w'' = w.drewN (a + m) :=
  h.mono fun _ _ ⟨he, m, hm⟩ => ⟨he, n + m, by rw [hm, World.drewN_drewN, Nat.add_assoc]⟩
theorem quiet_n {P : Program} {f : FuncId} {args : Array Value} {w : World} {n : Nat} {v : Value}
    (h : Calls P f args (w.drewN n) fun e w' => e = .returned v ∧ ∃ m, w' = (w.drewN n).drewN m) :
    Calls P f args (w.drewN n) fun e w'' => e = .returned v ∧ ∃ m, w'' = w.drewN m :=
  h.mono fun _ _ ⟨he, m, hm⟩ => ⟨he, n + m, by rw [hm, World.drewN_drewN]⟩

/-- byte i of a text as a number; 0 beyond its end -/
def bt (p : ByteArray) (i : Nat) : Nat := (p.data.toList.getD i 0).toNat
theorem bt_lt (p : ByteArray) (i : Nat) : bt p i < 256 := UInt8.toNat_lt _
theorem get_bt (p : ByteArray) (i : Nat) (h : i < p.size) : (p[i]'h).toNat = bt p i := by
  have h' : i < p.data.toList.length := by simpa using h
  unfold bt
  rw [List.getD_eq_getElem?_getD, List.getElem?_eq_getElem h']
  rfl
theorem wrap_byte (n : Nat) (h : n < 256) : wrap64 (n : Int) = n := IntWalk.wrap64_in _ ⟨by omega, by omega⟩

theorem toList_nil (s : ByteArray) : s.toList = [] ↔ s.size = 0 := by
  rw [Lib.toList_data, Lib.size_eq]
  exact List.length_eq_zero_iff.symm

/-- A block of bytes of the call's own, known whole. -/
def BB (w : World) (g : Nat) (l : List UInt8) : Prop := w.heap[g]? = some (.cells (l.map fun b => Value.int .u8 b.toNat).toArray 5 (0, 0))
theorem BB.ext {w w' : World} {g : Nat} {l : List UInt8} (h : BB w g l) (he : Ext w w') : BB w' g l := he.heap h
theorem BB.drew {w : World} {g : Nat} {l : List UInt8} (h : BB w g l) : BB w.drew g l := h
theorem BB.lt {w : World} {g : Nat} {l : List UInt8} (h : BB w g l) : g < w.heap.size := by
  rcases Nat.lt_or_ge g w.heap.size with hlt | hge
  · exact hlt
  · unfold BB at h; rw [Array.getElem?_eq_none hge] at h; cases h
theorem BB.cell {w : World} {g : Nat} {l : List UInt8} (h : BB w g l) (i : Nat) (hi : i < l.length) : w.cell? ⟨g, i, none⟩ = some (.int .u8 l[i].toNat) := by
  unfold BB at h
  simp [World.cell?, h, hi]
theorem BB.frozen {w : World} {g : Nat} {l : List UInt8} (h : BB w g l) (i : Nat) : w.frozen? ⟨g, i, none⟩ = false := by
  unfold BB at h
  simp [World.frozen?, h]
theorem BB.set_ {w : World} {g : Nat} {l : List UInt8} (h : BB w g l) (i : Nat) (b : UInt8) : BB (w.setCell ⟨g, i, none⟩ (.int .u8 b.toNat)) g (l.set i b) := by
  unfold BB at h ⊢
  simp [World.setCell, Array.getElem?_modify, h]
theorem BB.new_ {w : World} {C : Array Value} {l : List UInt8} (h : C = (l.map fun b => Value.int .u8 b.toNat).toArray) : BB (w.alloc (.cells C 5)) w.heap.size l := by
  subst h
  exact heap_alloc_new w _
theorem BB.alloc {w : World} {g : Nat} {l : List UInt8} (h : BB w g l) (o : Obj) : BB (w.alloc o) g l := (Below.heap_alloc w o g h.lt).trans h
theorem BB.far {w : World} {g : Nat} {l : List UInt8} (h : BB w g l) {p : Addr} (hp : g ≠ p.block) (u : Value) : BB (w.setCell p u) g l :=
  (Below.heap_setCell w p u g hp).trans h
end
section
open Go.RowKit
set_option linter.unusedVariables false
set_option linter.unusedSimpArgs false

/-- data cut into parts of so many bytes -/
def partsN (m : Nat) : Nat → ByteArray → List ByteArray
  | 0, s => [s]
  | f + 1, s => if m < s.size then s.extract 0 m :: partsN m f (s.extract m s.size) else [s]
def partsL (m : Nat) (s : ByteArray) : List ByteArray := partsN m s.size s
theorem partsN_small {m : Nat} {s : ByteArray} (h : ¬ m < s.size) : ∀ f, partsN m f s = [s]
  | 0 => rfl
  | f + 1 => if_neg h
theorem partsN_big {m f : Nat} {s : ByteArray} (h : m < s.size) : partsN m (f + 1) s = s.extract 0 m :: partsN m f (s.extract m s.size) := if_pos h
theorem partsN_len (m : Nat) : ∀ f s, 1 ≤ (partsN m f s).length ∧ (partsN m f s).length ≤ f + 1
  | 0, s => by simp [partsN]
  | f + 1, s => by
    have ih := partsN_len m f (s.extract m s.size)
    unfold partsN
    split
    · simp only [List.length_cons]; omega
    · simp only [List.length_cons, List.length_nil]; omega
theorem partsN_size {m : Nat} (hm : 1 ≤ m) : ∀ f s, s.size ≤ f → ∀ p ∈ partsN m f s, p.size ≤ m
  | 0, s, hs, p, hp => by
    simp only [partsN, List.mem_singleton] at hp
    subst hp
    omega
  | f + 1, s, hs, p, hp => by
    unfold partsN at hp
    split at hp
    · next h =>
      rcases List.mem_cons.1 hp with rfl | hp
      · simp only [ByteArray.size_extract]; omega
      · exact partsN_size hm f _ (by simp only [ByteArray.size_extract]; omega) p hp
    · next h =>
      simp only [List.mem_singleton] at hp
      subst hp
      omega
theorem partsN_sizeLe {m : Nat} : ∀ f s, ∀ p ∈ partsN m f s, p.size ≤ s.size
  | 0, s, p, hp => by
    simp only [partsN, List.mem_singleton] at hp
    subst hp
    omega
  | f + 1, s, p, hp => by
    unfold partsN at hp
    split at hp
    · next h =>
      rcases List.mem_cons.1 hp with rfl | hp
      · simp only [ByteArray.size_extract]; omega
      · have := partsN_sizeLe f _ p hp
        simp only [ByteArray.size_extract] at this
        omega
    · next h =>
      simp only [List.mem_singleton] at hp
      subst hp
      omega
theorem partsN_join {m : Nat} : ∀ f s, (partsN m f s).flatMap (·.data.toList) = s.data.toList
  | 0, s => by simp [partsN]
  | f + 1, s => by
    unfold partsN
    split
    · next h =>
      rw [List.flatMap_cons, partsN_join f]
      simp only [ByteArray.data_extract, Array.toList_extract, List.extract_eq_take_drop]
      rw [show s.size = s.data.toList.length from rfl, List.drop_zero, Nat.sub_zero, List.take_of_length_le (i := s.data.toList.length - m) (by simp), List.take_append_drop]
    · simp
theorem partsL_len (m : Nat) (s : ByteArray) : 1 ≤ (partsL m s).length ∧ (partsL m s).length ≤ s.size + 1 := partsN_len m _ s
theorem partsL_size {m : Nat} (hm : 1 ≤ m) (s : ByteArray) : ∀ p ∈ partsL m s, p.size ≤ m := partsN_size hm _ s (Nat.le_refl _)
theorem partsL_sizeLe {m : Nat} (s : ByteArray) : ∀ p ∈ partsL m s, p.size ≤ s.size := partsN_sizeLe _ s
theorem partsL_join (m : Nat) (s : ByteArray) : (partsL m s).flatMap (·.data.toList) = s.data.toList := partsN_join _ s

/-- the last byte of a number -/
def by8 (x : Int) : UInt8 := UInt8.ofNat (x % 256).toNat
theorem by8_nat (x : Int) : ((by8 x).toNat : Int) = x % 256 := by
  unfold by8
  simp only [UInt8.toNat_ofNat']
  omega
theorem by8_wrap (x : Int) : IntKind.u8.wrap x = ((by8 x).toNat : Int) := by
  rw [by8_nat]
  simp only [IntKind.wrap, IntKind.signed, IntKind.bits]
  simp
/-- the head of a fragment -/
def headL (kind : UInt8) (k number : Int) (nx : Int × Int) : List UInt8 :=
  [kind, by8 (k / 16777216), by8 (k / 65536), by8 (k / 256), by8 k, by8 (number / 256), by8 number, by8 (nx.1 / 256), by8 nx.1, by8 nx.2]
def frH (k all i : Int) (nx : Int × Int) : List UInt8 := if i = 0 then headL 65 k all nx else headL 67 k i nx
/-- a fragment: part i of a record of so many bytes -/
def frB (k all i : Int) (nx : Int × Int) (part : ByteArray) : ByteArray := ⟨(frH k all i nx ++ part.data.toList).toArray⟩
theorem frH_len (k all i : Int) (nx : Int × Int) : (frH k all i nx).length = 10 := by
  unfold frH
  split <;> rfl
theorem frB_size (k all i : Int) (nx : Int × Int) (part : ByteArray) : (frB k all i nx part).size = 10 + part.size := by
  show ((frH k all i nx ++ part.data.toList).toArray).size = _
  simp [frH_len]
theorem frB_list (k all i : Int) (nx : Int × Int) (part : ByteArray) : (frB k all i nx part).data.toList = frH k all i nx ++ part.data.toList := rfl
/-- the fragments of a record, all without a next one -/
def cutF (k all : Int) (l : List ByteArray) (i : Nat) : List ByteArray := (List.range i).map fun j : Nat => frB k all j (0, 0) (l.getD j ⟨#[]⟩)
theorem cutF_succ (k all : Int) (l : List ByteArray) (i : Nat) : cutF k all l (i + 1) = cutF k all l i ++ [frB k all i (0, 0) (l.getD i ⟨#[]⟩)] := by simp [cutF, List.range_succ]
theorem cutF_len (k all : Int) (l : List ByteArray) (i : Nat) : (cutF k all l i).length = i := by simp [cutF]
end
section
open Go.RowKit
set_option linter.unusedVariables false
set_option maxRecDepth 20000

/-- Only block g has changed (and new blocks may be there). -/
def Upd (w : World) (g : Nat) (w' : World) : Prop := w.grownBy w' (some g)
theorem Upd.refl (w : World) (g : Nat) : Upd w g w := ⟨rfl, rfl, rfl, Nat.le_refl _, fun _ _ _ => rfl⟩
theorem Upd.trans {a b c : World} {g : Nat} (h : Upd a g b) (k : Upd b g c) : Upd a g c :=
  ⟨k.os.trans h.os, k.tape.trans h.tape, k.output.trans h.output, Nat.le_trans h.size k.size, fun i hi hne => (k.block i (Nat.lt_of_lt_of_le hi h.size) hne).trans (h.block i hi hne)⟩
theorem Upd.of_ext {a b : World} (h : Ext a b) (g : Nat) : Upd a g b := ⟨h.os, h.tape, h.output, h.size, fun i hi _ => h.block hi⟩
theorem Upd.ext {a b c : World} {g : Nat} (h : Ext a b) (k : Upd b g c) (hg : a.heap.size ≤ g) : Ext a c :=
  Below.grown h k h.size (fun k hk => by injection hk with hk; omega)
theorem Upd.setCell (w : World) (g i : Nat) (v : Value) : Upd w g (w.setCell ⟨g, i, none⟩ v) :=
  ⟨rfl, rfl, rfl, by simp [World.setCell], fun k _ hk => Below.heap_setCell _ _ _ _ (fun e => hk (by simp [e]))⟩
theorem Upd.setRow (w : World) (g : Nat) (cs : Array Value) : Upd w g (w.setRow g cs) :=
  ⟨rfl, rfl, rfl, by simp [World.setRow], fun k _ hk => setRow_other w g k cs (fun e => hk (by simp [e]))⟩
theorem Upd.heap {a b : World} {g : Nat} (h : Upd a g b) {k : Nat} {o : Obj} (hk : a.heap[k]? = some o) (hne : k ≠ g) : b.heap[k]? = some o := by
  have hlt : k < a.heap.size := by
    rcases Nat.lt_or_ge k a.heap.size with hlt | hge
    · exact hlt
    · rw [Array.getElem?_eq_none hge] at hk; cases hk
  rw [h.block k hlt (fun e => hne (by injection e))]; exact hk
theorem Upd.cell {a b : World} {g : Nat} (h : Upd a g b) {p : Addr} {v : Value} (hc : a.cell? p = some v) (hne : p.block ≠ g) : b.cell? p = some v := by
  rw [World.cell?_of_block (h.block p.block (block_lt hc) (fun e => hne (by injection e)))]; exact hc
theorem Upd.drew {a b : World} {g : Nat} (h : Upd a g b) : Upd a g b.drew := ⟨h.os, h.tape, h.output, h.size, h.block⟩

def byteCellsOf (l : List UInt8) : List Value := l.map fun b => Value.int .u8 b.toNat

theorem u8_info : ∃ i, Try.prog.info? 5 = some i ∧ i.zero = some (.int .u8 0) ∧ i.size = 1 ∧ i.bytes = 1 := by
  have h : (Try.prog.info? 5).map (fun i => (i.zero, i.size, i.bytes)) = some (some (.int .u8 0), 1, 1) := by kernel_rfl
  cases hq : Try.prog.info? 5 with
  | none => simp [hq] at h
  | some i => simp [hq] at h; exact ⟨i, rfl, h.1, h.2.1, h.2.2⟩
theorem u8_size : (Try.prog.info? 5).map (·.size) = some 1 := by kernel_rfl

section
variable {w : World} {ops : Array Oper} {rest : List Oper} {o : Oper} {a : Act} {K : Act → World → Prop} {Q : Exit → Act → World → Prop} {E : Prop}

theorem wp_make_bytes (l c : Operand) (ho : o.op = .makeSlice 60 l c) (n : Nat) (hl : a.eval l = .int .i64 n) (hc : a.eval c = .int .i64 n) (hn : n ≤ 140737488355328)
    (h : ∀ g w', w.heap.size ≤ g → BB w' g (List.replicate n 0) → Ext w w' → K (a.put o.dst (.slice (some ⟨g, 0, none⟩) n n)) w') : o.wp Try.prog a w K Q := by
  obtain ⟨i, hi, hz, hs, hb⟩ := u8_info
  have hr := run_make (P := Try.prog) w 60 5 i (.int .u8 0) Try.underlying60 hi hz .i64 .i64 (n : Int) (n : Int) (by omega) (by omega) (by rw [hb]; omega) (by omega)
  unfold Oper.wp
  simp only [execOp, ho, hl, hc, Sem.run_bind, hr, Result.andThen_ok, Sem.run_pure]
  have := h w.heap.size (w.alloc (.cells (madeCells #[.int .u8 0] (n * 1)) 5)) (Nat.le_refl _) (BB.new_ (by
    apply Array.ext
    · simp [madeCells]
    · intro j h1 h2
      simp [madeCells, Nat.mod_one])) ((Ext.refl w).alloc _)
  rw [Oper.upon_value]
  simpa [hs, Value.cells] using this
theorem wpList_make_bytes (hgd : o.guard = none) (l c : Operand) (ho : o.op = .makeSlice 60 l c) (n : Nat) (hl : a.eval l = .int .i64 n) (hc : a.eval c = .int .i64 n) (hn : n ≤ 140737488355328)
    (h : ∀ g w', w.heap.size ≤ g → BB w' g (List.replicate n 0) → Ext w w' → wpList Try.prog ops Q rest (a.put o.dst (.slice (some ⟨g, 0, none⟩) n n)) w') : wpList Try.prog ops Q (o :: rest) a w :=
  wpList_plain hgd fun _ hK => wp_make_bytes l c ho n hl hc hn fun g w' h1 h2 h3 => hK _ _ (h g w' h1 h2 h3)

theorem splice_map {α β : Type} (f : α → β) (L : List α) (k : Nat) (cs : List α) : splice (L.map f) k (cs.map f) = (splice L k cs).map f := by simp [splice]

/-- copy(b[k:], s) of a text that is not empty and fits. -/
theorem wp_copy_str (d s : Operand) (ho : o.op = .call { callee := .builtin .copy, args := #[d, s], argTypes := #[60, 9] }) (g k dLen dCap : Nat) (t : ByteArray) (L : List UInt8)
    (hd : a.eval d = .slice (some ⟨g, k, none⟩) dLen dCap) (hs : a.eval s = .string t) (hg : BB w g L) (hle : t.size ≤ dLen) (hfit : k + t.size ≤ L.length)
    (h : ∀ w', BB w' g (splice L k t.data.toList) → Upd w g w' → K (a.put o.dst (goInt t.size)) w') : o.wp Try.prog a w K Q := by
  have hr := Lib.run_copy_row_string (P := Try.prog) w 60 9 o.type 5 g k dLen dCap t _ 5 Try.underlying60 u8_size hg hle (by simpa using hfit)
  unfold Oper.wp
  simp only [execOp, ho, resolve, invoke, builtin, Sem.run_bind, Sem.run_pure, Result.andThen_ok, List.map_toArray, List.map_cons, List.map_nil, hd, hs, hr]
  refine h _ ?_ (Upd.setRow w g _)
  unfold BB at hg ⊢
  rw [setRow_heap w g _ _ 5 _ hg, ← splice_map]
  have e : t.data.toList.length = t.size := by simp
  simp only [splice, Lib.byteCells, List.length_map, e, List.append_assoc]
theorem wpList_copy_str (hgd : o.guard = none) (d s : Operand) (ho : o.op = .call { callee := .builtin .copy, args := #[d, s], argTypes := #[60, 9] }) (g k dLen dCap : Nat) (t : ByteArray) (L : List UInt8)
    (hd : a.eval d = .slice (some ⟨g, k, none⟩) dLen dCap) (hs : a.eval s = .string t) (hg : BB w g L) (hle : t.size ≤ dLen) (hfit : k + t.size ≤ L.length)
    (h : ∀ w', BB w' g (splice L k t.data.toList) → Upd w g w' → wpList Try.prog ops Q rest (a.put o.dst (goInt t.size)) w') : wpList Try.prog ops Q (o :: rest) a w :=
  wpList_plain hgd fun _ hK => wp_copy_str d s ho g k dLen dCap t L hd hs hg hle hfit fun w' h1 h2 => hK _ _ (h w' h1 h2)
theorem step_copy_str (hgd : o.guard = none) (d s : Operand) (ho : o.op = .call { callee := .builtin .copy, args := #[d, s], argTypes := #[60, 9] }) (g k dLen dCap : Nat) (t : ByteArray) (L : List UInt8)
    (hd : a.eval d = .slice (some ⟨g, k, none⟩) dLen dCap) (hs : a.eval s = .string t) (hg : BB w g L) (hle : t.size ≤ dLen) (hfit : k + t.size ≤ L.length)
    (h : ∀ w', BB w' g (splice L k t.data.toList) → Upd w g w' → K (a.put o.dst (goInt t.size)) w') : if Region.wanted o (yielded ops a.tmps) = true then Oper.wp Try.prog o a w K Q else E := by
  rw [if_pos (by simp [Region.wanted, hgd])]
  exact wp_copy_str d s ho g k dLen dCap t L hd hs hg hle hfit h

/-- copy(b[k:], x) of a block of bytes that fits. -/
theorem wp_copy_bb (d s : Operand) (ho : o.op = .call { callee := .builtin .copy, args := #[d, s], argTypes := #[60, 60] }) (g k dLen dCap g2 n2 c2 : Nat) (L X : List UInt8)
    (hd : a.eval d = .slice (some ⟨g, k, none⟩) dLen dCap) (hs : a.eval s = .slice (some ⟨g2, 0, none⟩) n2 c2) (hg : BB w g L) (hg2 : BB w g2 X) (hX : X.length = n2) (hle : n2 ≤ dLen) (hfit : k + n2 ≤ L.length)
    (h : ∀ w', BB w' g (splice L k X) → Upd w g w' → K (a.put o.dst (goInt n2)) w') : o.wp Try.prog a w K Q := by
  have hmin : Nat.min n2 dLen = n2 := Nat.min_eq_left hle
  have hr := run_copy_row (P := Try.prog) w 60 60 o.type 5 g k dLen dCap ⟨g2, 0, none⟩ n2 c2 _ 5 (X.map fun b => Value.int .u8 b.toNat) Try.underlying60 u8_size hg (by simp [hmin, hX]) (fun j v hj => by
    rw [List.getElem?_map] at hj
    have hjl : j < X.length := by
      rcases Nat.lt_or_ge j X.length with hlt | hge
      · exact hlt
      · rw [List.getElem?_eq_none hge] at hj; cases hj
    rw [List.getElem?_eq_getElem hjl] at hj
    simp only [Option.map_some, Option.some.injEq] at hj
    subst hj
    have := hg2.cell j hjl
    simpa [Addr.add, Nat.zero_add] using (by
      by_cases hj0 : j = 0
      · subst hj0; simpa [Addr.add] using this
      · simpa [Addr.add, hj0] using this)) (by simpa [hX] using hfit) (fun v hv => by
    simp only [List.mem_map] at hv
    obtain ⟨b, _, rfl⟩ := hv
    rfl)
  unfold Oper.wp
  simp only [execOp, ho, resolve, invoke, builtin, Sem.run_bind, Sem.run_pure, Result.andThen_ok, List.map_toArray, List.map_cons, List.map_nil, hd, hs, hr]
  have := h (w.setRow g (splice (L.map fun b => Value.int .u8 b.toNat) k (X.map fun b => Value.int .u8 b.toNat)).toArray) (by
    have hg' := hg
    unfold BB at hg ⊢
    rw [setRow_heap w g _ _ 5 _ hg, splice_map]) (Upd.setRow w g _)
  rw [Oper.upon_value]
  simpa [splice, hX] using this
theorem wpList_copy_bb (hgd : o.guard = none) (d s : Operand) (ho : o.op = .call { callee := .builtin .copy, args := #[d, s], argTypes := #[60, 60] }) (g k dLen dCap g2 n2 c2 : Nat) (L X : List UInt8)
    (hd : a.eval d = .slice (some ⟨g, k, none⟩) dLen dCap) (hs : a.eval s = .slice (some ⟨g2, 0, none⟩) n2 c2) (hg : BB w g L) (hg2 : BB w g2 X) (hX : X.length = n2) (hle : n2 ≤ dLen) (hfit : k + n2 ≤ L.length)
    (h : ∀ w', BB w' g (splice L k X) → Upd w g w' → wpList Try.prog ops Q rest (a.put o.dst (goInt n2)) w') : wpList Try.prog ops Q (o :: rest) a w :=
  wpList_plain hgd fun _ hK => wp_copy_bb d s ho g k dLen dCap g2 n2 c2 L X hd hs hg hg2 hX hle hfit fun w' h1 h2 => hK _ _ (h w' h1 h2)
theorem step_copy_bb (hgd : o.guard = none) (d s : Operand) (ho : o.op = .call { callee := .builtin .copy, args := #[d, s], argTypes := #[60, 60] }) (g k dLen dCap g2 n2 c2 : Nat) (L X : List UInt8)
    (hd : a.eval d = .slice (some ⟨g, k, none⟩) dLen dCap) (hs : a.eval s = .slice (some ⟨g2, 0, none⟩) n2 c2) (hg : BB w g L) (hg2 : BB w g2 X) (hX : X.length = n2) (hle : n2 ≤ dLen) (hfit : k + n2 ≤ L.length)
    (h : ∀ w', BB w' g (splice L k X) → Upd w g w' → K (a.put o.dst (goInt n2)) w') : if Region.wanted o (yielded ops a.tmps) = true then Oper.wp Try.prog o a w K Q else E := by
  rw [if_pos (by simp [Region.wanted, hgd])]
  exact wp_copy_bb d s ho g k dLen dCap g2 n2 c2 L X hd hs hg hg2 hX hle hfit h

/-- string(b) of a block of bytes. -/
theorem wp_text_bb (x : Operand) (ho : o.op = .convert 60 9 x) (g n c : Nat) (L : List UInt8) (hx : a.eval x = .slice (some ⟨g, 0, none⟩) n c) (hg : BB w g L) (hL : L.length = n)
    (h : K (a.put o.dst (.string ⟨L.toArray⟩)) w) : o.wp Try.prog a w K Q := by
  subst hL
  have hr := run_convert_bytes_back (P := Try.prog) w 60 9 5 ⟨g, 0, none⟩ c L Try.underlying60 Try.underlying5 Try.underlying9 (fun j hj => by
    have := hg.cell j hj
    by_cases hj0 : j = 0
    · subst hj0; simpa [Addr.add] using this
    · simpa [Addr.add, hj0] using this)
  unfold Oper.wp
  simp only [execOp, ho, hx, Sem.run_bind, hr, Result.andThen_ok, Sem.run_pure]
  exact h
theorem wpList_text_bb (hgd : o.guard = none) (x : Operand) (ho : o.op = .convert 60 9 x) (g n c : Nat) (L : List UInt8) (hx : a.eval x = .slice (some ⟨g, 0, none⟩) n c) (hg : BB w g L) (hL : L.length = n)
    (h : wpList Try.prog ops Q rest (a.put o.dst (.string ⟨L.toArray⟩)) w) : wpList Try.prog ops Q (o :: rest) a w :=
  wpList_plain hgd fun _ hK => wp_text_bb x ho g n c L hx hg hL (hK _ _ h)
end
end
section
open Go.RowKit
set_option linter.unusedVariables false
set_option maxRecDepth 20000
set_option linter.unusedSimpArgs false
set_option linter.unusedSectionVars false
set_option maxRecDepth 20000

/-- a slice of elements that lie in the cells 'cs' tells -/
structure SlG {α : Type} (cs : α → List Value) (w : World) (P : Option Addr) (cap : Nat) (l : List α) : Prop where
  at_ : ∀ (i : Nat) (x : α), l[i]? = some x → ∃ b off, P = some ⟨b, off, none⟩ ∧ ∀ (j : Nat) (v : Value), (cs x)[j]? = some v → w.cell? ⟨b, off + i * (cs x).length + j, none⟩ = some v
  le : l.length ≤ cap
  cap : cap ≤ 9223372036854775807
theorem SlG.ext {α : Type} {cs : α → List Value} {w w' : World} {P : Option Addr} {cap : Nat} {l : List α} (h : SlG cs w P cap l) (hx : Ext w w') : SlG cs w' P cap l :=
  ⟨fun i x hi => by obtain ⟨b, off, e, h1⟩ := h.at_ i x hi; exact ⟨b, off, e, fun j v hj => hx.cell (h1 j v hj)⟩, h.le, h.cap⟩
theorem SlG.nil {α : Type} (cs : α → List Value) (w : World) : SlG cs w none 0 [] := ⟨fun i x hi => by simp at hi, Nat.le_refl _, by omega⟩
theorem SlG.len {α : Type} {cs : α → List Value} {w : World} {P : Option Addr} {cap : Nat} {l : List α} (h : SlG cs w P cap l) : l.length ≤ 9223372036854775807 := Nat.le_trans h.le h.cap

theorem own_ext {A B : World} {base : Nat} {e : TypeId} {size : Nat} {v : Value} {n : Nat} {xs : List Value} (h : A.ownsRow base e size v n xs) (hx : Ext A B) : B.ownsRow base e size v n xs := by
  refine ⟨h.1, ?_⟩
  rcases h.2 with h0 | ⟨g, cap, cur, hv, hb, hg, rest⟩
  · exact .inl h0
  · exact .inr ⟨g, cap, cur, hv, hb, hx.heap hg, rest⟩
theorem flat_at {α : Type} {cs : α → List Value} {k : Nat} (hk : ∀ x, (cs x).length = k) : ∀ (l : List α) (i j : Nat) (x : α) (u : Value), l[i]? = some x → (cs x)[j]? = some u → (l.flatMap cs)[i * k + j]? = some u
  | [], i, j, x, u, h, _ => by simp at h
  | y :: l, 0, j, x, u, h, hu => by
    simp at h
    subst h
    rw [List.flatMap_cons, Nat.zero_mul, Nat.zero_add, List.getElem?_append_left (List.getElem?_eq_some_iff.1 hu).1]
    exact hu
  | y :: l, i + 1, j, x, u, h, hu => by
    have := flat_at hk l i j x u (by simpa using h) hu
    rw [List.flatMap_cons, List.getElem?_append_right (by rw [hk, Nat.add_mul]; omega), hk]
    rw [show (i + 1) * k + j - k = i * k + j from by rw [Nat.add_mul]; omega]
    exact this
/-- a row of the call's own, read -/
theorem own_slG {α : Type} {cs : α → List Value} {k : Nat} (hk : ∀ x, (cs x).length = k) {w : World} {base : Nat} {e : TypeId} {v : Value} {l : List α} (h : w.ownsRow base e k v l.length (l.flatMap cs)) (hl : l.length ≤ 9223372036854775807) :
    ∃ P cap, v = .slice P l.length cap ∧ SlG cs w P cap l := by
  rcases h.2 with ⟨rfl, h0⟩ | ⟨g, cap, cur, rfl, hb, hg, hcl, hcm, hcs, htk⟩
  · obtain rfl := List.length_eq_zero_iff.1 h0
    exact ⟨none, 0, rfl, SlG.nil _ _⟩
  · refine ⟨_, cap, rfl, ⟨fun i x hi => ⟨g, 0, rfl, fun j u hj => ?_⟩, hcl, by unfold maxLen at hcm; exact hcm⟩⟩
    have := h.cells (g := g) rfl (i * k + j) u (flat_at hk l i j x u hi hj)
    rw [hk]
    rw [← this]
    congr 1
    cases hn : i * k + j with
    | zero => simp [Addr.add]; omega
    | succ n => simp [Addr.add]; omega

/-- what is known of the elements of a slice type -/
structure ElemG {α : Type} (cs : α → List Value) (t e : TypeId) (k bytes : Nat) : Prop where
  ht : Try.prog.underlying t = some (.slice e)
  info : ∃ i z, Try.prog.info? e = some i ∧ i.zero = some z ∧ i.size = k ∧ i.bytes = bytes ∧ z.cells.size = k
  k0 : 0 < k
  hk : ∀ x, (cs x).length = k
  one : ∀ x, ∀ u ∈ cs x, u.oneCell' = true
/-- a list in a block of the call's own (from 'base' on) -/
def OwnG {α : Type} (cs : α → List Value) (e : TypeId) (k : Nat) (w : World) (base : Nat) (v : Value) (l : List α) : Prop := w.ownsRow base e k v l.length (l.flatMap cs)
theorem flat_of {α : Type} {cs : α → List Value} {k : Nat} (hk : ∀ x, (cs x).length = k) : ∀ (l : List α) (j : Nat) (u : Value), (l.flatMap cs)[j]? = some u → ∃ i q x, j = i * k + q ∧ l[i]? = some x ∧ (cs x)[q]? = some u
  | [], j, u, h => by simp at h
  | y :: l, j, u, h => by
    rw [List.flatMap_cons] at h
    by_cases hj : j < k
    · rw [List.getElem?_append_left (by rw [hk]; exact hj)] at h
      exact ⟨0, j, y, by omega, rfl, h⟩
    · rw [List.getElem?_append_right (by rw [hk]; omega), hk] at h
      obtain ⟨i, q, x, e, h1, h2⟩ := flat_of hk l (j - k) u h
      exact ⟨i + 1, q, x, by rw [Nat.add_mul]; omega, by simpa using h1, h2⟩
theorem flat_len {α : Type} {cs : α → List Value} {k : Nat} (hk : ∀ x, (cs x).length = k) (l : List α) : (l.flatMap cs).length = l.length * k := by
  induction l with
  | nil => simp
  | cons y l ih => rw [List.flatMap_cons, List.length_append, hk, ih, List.length_cons, Nat.add_mul]; omega
theorem flat_set {α : Type} {cs : α → List Value} {k : Nat} (hk : ∀ x, (cs x).length = k) : ∀ (l : List α) (i : Nat) (y : α), i < l.length → (l.set i y).flatMap cs = (l.flatMap cs).take (i * k) ++ cs y ++ (l.flatMap cs).drop (i * k + k)
  | [], i, y, h => by simp at h
  | x :: l, 0, y, h => by
    rw [List.set_cons_zero, List.flatMap_cons, List.flatMap_cons, Nat.zero_mul, Nat.zero_add, List.take_zero, List.nil_append, List.drop_append_of_le_length (by rw [hk]; exact Nat.le_refl _), List.drop_of_length_le (by rw [hk]; exact Nat.le_refl _), List.nil_append]
  | x :: l, i + 1, y, h => by
    rw [List.set_cons_succ, List.flatMap_cons, flat_set hk l i y (by simpa using h), List.flatMap_cons, show (i + 1) * k = k + i * k from by rw [Nat.add_mul]; omega]
    rw [show k + i * k + k = (cs x).length + (i * k + k) from by rw [hk]; omega, show k + i * k = (cs x).length + i * k from by rw [hk]]
    rw [List.drop_length_add_append, List.take_length_add_append]
    simp only [List.append_assoc]

theorem add_flat (b off n : Nat) : (⟨b, off, none⟩ : Addr).add n = ⟨b, off + n, none⟩ := by
  cases n with
  | zero => simp [Addr.add]
  | succ n => simp [Addr.add]
section
variable {α : Type} {cs : α → List Value} {t e : TypeId} {k bytes : Nat} {w : World} {base : Nat}
theorem SlG.flat {b off cap : Nat} {m : List α} (hk : ∀ x, (cs x).length = k) (h : SlG cs w (some ⟨b, off, none⟩) cap m) : ∀ j u, (m.flatMap cs)[j]? = some u → w.cell? ((⟨b, off, none⟩ : Addr).add j) = some u := by
  intro j u hj
  obtain ⟨i, q, x, rfl, h1, h2⟩ := flat_of hk m j u hj
  obtain ⟨b', off', e, h3⟩ := h.at_ i x h1
  injection e with e
  injection e with e1 e2
  subst e1 e2
  have := h3 q u h2
  rw [hk] at this
  rw [add_flat, ← this]
  congr 2
  omega
theorem OwnG.nil (cs : α → List Value) (e : TypeId) (k : Nat) (w : World) (base : Nat) : OwnG cs e k w base (.slice none 0 0) [] := World.ownsRow_nil _ _ _ _
theorem OwnG.ext {w' : World} {v : Value} {l : List α} (h : OwnG cs e k w base v l) (hx : Ext w w') : OwnG cs e k w' base v l := own_ext h hx
theorem OwnG.slG (E : ElemG cs t e k bytes) {v : Value} {l : List α} (h : OwnG cs e k w base v l) (hl : l.length ≤ 9223372036854775807) : ∃ P cap, v = .slice P l.length cap ∧ SlG cs w P cap l := own_slG E.hk h hl
theorem OwnG.base_ {v : Value} {l : List α} (h : OwnG cs e k w base v l) : ∀ g, v.ownBlock = some g → base ≤ g := fun g hg => (World.ownsRow.lt h g hg).1
/-- an empty literal, ready to be appended to -/
theorem OwnG.lit0 (hb : base ≤ w.heap.size) : OwnG cs e k (w.alloc (.cells #[] e)) base (.slice (some ⟨w.heap.size, 0, none⟩) 0 0) [] := World.ownsRow_lit w #[] 0 hb (by unfold maxLen; omega) (by simp)
/-- one element in a block of its own, read -/
theorem SlG.one (hk : ∀ x, (cs x).length = k) (x : α) {t0 : TypeId} {C : Array Value} {b : Nat} (hC : C = (cs x).toArray) (hb : b = w.heap.size) : SlG cs (w.alloc (.cells C t0)) (some ⟨b, 0, none⟩) 1 [x] := by
  subst hC hb
  refine ⟨fun i y hi => ⟨w.heap.size, 0, rfl, fun j u hj => ?_⟩, by simp, by omega⟩
  match i, hi with
  | 0, hi =>
    simp at hi
    subst hi
    rw [show (0 : Nat) + 0 * (cs x).length + j = j from by omega]
    exact (World.cell?_alloc_mark _ _ _ _ j).trans (by simpa using hj)
  | i + 1, hi => simp at hi
theorem OwnG.append (E : ElemG cs t e k bytes) (ty : TypeId) {v : Value} {l m : List α} (h : OwnG cs e k w base v l) {P : Option Addr} {c : Nat} (hm : SlG cs w P c m) (hP : P = none → c = 0) (hle : (l.length + m.length) * bytes ≤ 140737488355328) (hlb : l.length + m.length ≤ 9223372036854775807) (hbase : base ≤ w.heap.size) :
    ∃ v' w', (Builtin.append_ #[t, t] ty #[v, .slice P m.length c]).run Try.prog w = .ok v' w' ∧ OwnG cs e k w' base v' (l ++ m) ∧ w.grownBy w' v.ownBlock ∧ Below base w w' := by
  have hbel : ∀ w', w.grownBy w' v.ownBlock → Below base w w' := fun w' hg => Below.grown (Below.refl _ _) hg hbase (fun g hg => h.base_ g hg)
  obtain ⟨i, z, hi, hz, hs, hby, hzs⟩ := E.info
  cases P with
  | none =>
    obtain rfl := hP rfl
    obtain rfl : m = [] := List.length_eq_zero_iff.1 (by have := hm.le; omega)
    refine ⟨v, w, run_append_owned_none w base t ty e i k E.ht hi v _ _ h, by rw [List.append_nil]; exact h, ⟨rfl, rfl, rfl, Nat.le_refl _, fun _ _ _ => rfl⟩, Below.refl _ _⟩
  | some ad =>
    have hn : ∀ j u, (m.flatMap cs)[j]? = some u → w.cell? (ad.add j) = some u := by
      cases m with
      | nil => intro j u hj; simp at hj
      | cons y m =>
        obtain ⟨b, off, e, _⟩ := hm.at_ 0 y rfl
        injection e with e
        subst e
        exact hm.flat E.hk
    obtain ⟨v', w', hr, ho, hg, _⟩ := run_append_own w base t ty e i z k bytes E.ht hi hz hs hby hzs E.k0 v l.length _ h ad m.length c (m.flatMap cs) (flat_len E.hk m) hn (fun u hu => by
      obtain ⟨x, _, hx⟩ := List.mem_flatMap.1 hu
      exact E.one x u hx) (by unfold maxLen; omega) hle hbase
    refine ⟨v', w', hr, ?_, hg, hbel _ hg⟩
    unfold OwnG
    rw [List.length_append, List.flatMap_append]
    exact ho
end
section
variable {α : Type} {cs : α → List Value} {t e : TypeId} {k bytes : Nat} {w : World} {base : Nat} {ops : Array Oper} {rest : List Oper} {o : Oper} {a : Act} {Q : Exit → Act → World → Prop}
/-- append(s, x...) for the walk -/
theorem wpList_app_G (w : World) (E : ElemG cs t e k bytes) (hgd : o.guard = none) (s x : Operand) (ho : o.op = .call { callee := .builtin .append, args := #[s, x], argTypes := #[t, t] }) {v : Value} {l : List α} (hs : a.eval s = v) (h : OwnG cs e k w base v l)
    {P : Option Addr} {c : Nat} {m : List α} (hx : a.eval x = .slice P m.length c) (hm : SlG cs w P c m) (hP : P = none → c = 0) (hle : (l.length + m.length) * bytes ≤ 140737488355328) (hlb : l.length + m.length ≤ 9223372036854775807) (hbase : base ≤ w.heap.size)
    (hn : ∀ v' w', OwnG cs e k w' base v' (l ++ m) → Below base w w' → wpList Try.prog ops Q rest (a.put o.dst v') w') : wpList Try.prog ops Q (o :: rest) a w := by
  obtain ⟨v', w', hr, ho', _, hb⟩ := h.append E o.type hm hP hle hlb hbase
  exact Lib.wpList_append_run _ hgd s x _ _ ho _ _ hs hx _ _ hr (hn _ _ ho' hb)
end
theorem below_ext {a b c : World} {base : Nat} (h : Ext a b) (k : Below base b c) (hb : a.heap.size ≤ base) : Ext a c := Below.trans h (Below.mono k hb)
/-- one cell stored -/
theorem flat_set_cell {α : Type} {cs : α → List Value} {k : Nat} (hk : ∀ x, (cs x).length = k) : ∀ (l : List α) (i j : Nat) (x y : α) (u : Value), l[i]? = some x → cs y = (cs x).set j u → j < k → (l.set i y).flatMap cs = (l.flatMap cs).set (i * k + j) u
  | [], i, j, x, y, u, h, _, _ => by simp at h
  | z :: l, 0, j, x, y, u, h, hy, hj => by
    simp at h
    subst h
    rw [List.set_cons_zero, List.flatMap_cons, List.flatMap_cons, hy, Nat.zero_mul, Nat.zero_add, List.set_append_left _ _ (by rw [hk]; exact hj)]
  | z :: l, i + 1, j, x, y, u, h, hy, hj => by
    rw [List.set_cons_succ, List.flatMap_cons, List.flatMap_cons, flat_set_cell hk l i j x y u (by simpa using h) hy hj, List.set_append_right _ _ (by rw [hk, Nat.add_mul]; omega), hk]
    rw [show (i + 1) * k + j - k = i * k + j from by rw [Nat.add_mul]; omega]
theorem OwnG.setCell {α : Type} {cs : α → List Value} {e : TypeId} {k : Nat} (hk : ∀ x, (cs x).length = k) {w : World} {base g n cap : Nat} {l : List α} (h : OwnG cs e k w base (.slice (some ⟨g, 0, none⟩) n cap) l) (hn : n = l.length) (i j : Nat) (x y : α) (u : Value) (hi : l[i]? = some x) (hy : cs y = (cs x).set j u) (hj : j < k) :
    OwnG cs e k (w.setCell ⟨g, i * k + j, none⟩ u) base (.slice (some ⟨g, 0, none⟩) n cap) (l.set i y) := by
  subst hn
  unfold OwnG
  rw [List.length_set, flat_set_cell hk l i j x y u hi hy hj]
  exact (World.ownsRow.stored h _ u).1
theorem set_set_same {α : Type} (l : List α) (i : Nat) (x y : α) : (l.set i x).set i y = l.set i y := by simp
/-- a list of the call's own that is not empty -/
theorem OwnG.tight {α : Type} {cs : α → List Value} {e : TypeId} {k : Nat} {w : World} {base : Nat} {v : Value} {l : List α} (h : OwnG cs e k w base v l) (hl : 0 < l.length) : ∃ g cap, v = .slice (some ⟨g, 0, none⟩) l.length cap ∧ base ≤ g ∧ g < w.heap.size ∧ l.length ≤ cap ∧ cap ≤ 9223372036854775807 := by
  rcases h.2 with ⟨rfl, h0⟩ | ⟨g, cap, cur, rfl, hb, hg, hcl, hcm, hcs, htk⟩
  · omega
  · refine ⟨g, cap, rfl, hb, ?_, hcl, by unfold maxLen at hcm; exact hcm⟩
    rcases Nat.lt_or_ge g w.heap.size with hlt | hge
    · exact hlt
    · rw [Array.getElem?_eq_none hge] at hg; cases hg
theorem OwnG.frozen {α : Type} {cs : α → List Value} {e : TypeId} {k : Nat} {w : World} {base g n cap : Nat} {l : List α} (h : OwnG cs e k w base (.slice (some ⟨g, 0, none⟩) n cap) l) (hn : n = l.length) (j : Nat) : w.frozen? ⟨g, j, none⟩ = false := by
  subst hn
  exact World.ownsRow.frozenAt h j
theorem OwnG.cell {α : Type} {cs : α → List Value} {e : TypeId} {k : Nat} (hk : ∀ x, (cs x).length = k) {w : World} {base g n cap : Nat} {l : List α} (h : OwnG cs e k w base (.slice (some ⟨g, 0, none⟩) n cap) l) (hn : n = l.length) (i : Nat) (x : α) (hi : l[i]? = some x) (j : Nat) (u : Value) (hu : (cs x)[j]? = some u) : w.cell? ⟨g, i * k + j, none⟩ = some u := by
  subst hn
  rw [World.ownsRow.cellAt h (i * k + j) ?_]
  · exact flat_at hk l i j x u hi hu
  · have h1 := (List.getElem?_eq_some_iff.1 hi).1
    have h2 := (List.getElem?_eq_some_iff.1 hu).1
    rw [hk] at h2
    have := Nat.mul_le_mul_right k (show i + 1 ≤ l.length from h1)
    rw [Nat.add_mul] at this
    omega

theorem SlG.ge0 {α : Type} {cs : α → List Value} {w : World} {P : Option Addr} {cap : Nat} {l : List α} (h : SlG cs w P cap l) (hl : 0 < l.length) (hk : ∀ x, 0 < (cs x).length) : P = none → False := by
  intro e
  obtain ⟨b, off, e2, _⟩ := h.at_ 0 _ (List.getElem?_eq_getElem hl)
  rw [e] at e2; cases e2
/-- numbers -/
abbrev SlI := @SlG Int (fun x => [.int .i64 x])
theorem SlG.intAt {w : World} {P : Option Addr} {cap : Nat} {l : List Int} (h : SlI w P cap l) (i : Nat) (hi : i < l.length) :
    ∃ b off, P = some ⟨b, off, none⟩ ∧ w.cell? ⟨b, off + i, none⟩ = some (.int .i64 (l.getD i 0)) := by
  obtain ⟨b, off, e, h1⟩ := h.at_ i (l.getD i 0) (by simp [List.getD_eq_getElem?_getD, hi])
  exact ⟨b, off, e, by have := h1 0 _ rfl; simpa using this⟩

theorem OwnG.cell1 {α : Type} {cs : α → List Value} {e : TypeId} (hk : ∀ x, (cs x).length = 1) {w : World} {base g n cap : Nat} {l : List α} (h : OwnG cs e 1 w base (.slice (some ⟨g, 0, none⟩) n cap) l) (hn : n = l.length) (i : Nat) (x : α) (u : Value) (hi : l[i]? = some x) (hu : cs x = [u]) : w.cell? ⟨g, i, none⟩ = some u := by
  have := h.cell hk hn i x hi 0 u (by rw [hu]; rfl)
  simpa using this
theorem OwnG.set1 {α : Type} {cs : α → List Value} {e : TypeId} (hk : ∀ x, (cs x).length = 1) {w : World} {base g n cap : Nat} {l : List α} (h : OwnG cs e 1 w base (.slice (some ⟨g, 0, none⟩) n cap) l) (hn : n = l.length) (i : Nat) (x y : α) (u : Value) (hi : l[i]? = some x) (hy : cs y = [u]) :
    OwnG cs e 1 (w.setCell ⟨g, i, none⟩ u) base (.slice (some ⟨g, 0, none⟩) n cap) (l.set i y) := by
  have := h.setCell hk hn i 0 x y u hi (by
    have := hk x
    cases hx : cs x with
    | nil => rw [hx] at this; simp at this
    | cons a b =>
      rw [hx] at this
      cases b with
      | nil => rw [hy]; rfl
      | cons c d => simp at this) (by omega)
  simpa using this
theorem int_zero : ∃ i, Try.prog.info? 3 = some i ∧ i.zero = some (.int .i64 0) ∧ i.size = 1 ∧ i.bytes = 8 := by
  have h : (Try.prog.info? 3).map (fun i => (i.zero, i.size, i.bytes)) = some (some (.int .i64 0), 1, 8) := by kernel_rfl
  cases hq : Try.prog.info? 3 with
  | none => simp [hq] at h
  | some i => simp [hq] at h; exact ⟨i, rfl, h.1, h.2.1, h.2.2⟩
/-- make([]T, n) for elements of one cell -/
theorem wpList_make_G {α : Type} {cs : α → List Value} {t e : TypeId} {bytes : Nat} {w : World} {ops : Array Oper} {rest : List Oper} {o : Oper} {a : Act} {Q : Exit → Act → World → Prop} (z0 : α) {z : Value} (ht : Try.prog.underlying t = some (.slice e)) (hi : ∃ i, Try.prog.info? e = some i ∧ i.zero = some z ∧ i.size = 1 ∧ i.bytes = bytes) (hz0 : cs z0 = [z]) (hzc : z.cells = #[z])
    (hgd : o.guard = none) (lo co : Operand) (ho : o.op = .makeSlice t lo co) (n : Nat) (hl : a.eval lo = .int .i64 n) (hc : a.eval co = .int .i64 n) (hb : bytes * n ≤ 281474976710656) (hm : n ≤ 9223372036854775807)
    (h : ∀ w', OwnG cs e 1 w' w.heap.size (.slice (some ⟨w.heap.size, 0, none⟩) n n) (List.replicate n z0) → Ext w w' → wpList Try.prog ops Q rest (a.put o.dst (.slice (some ⟨w.heap.size, 0, none⟩) n n)) w') : wpList Try.prog ops Q (o :: rest) a w := by
  obtain ⟨i, h1, h2, h3, h4⟩ := hi
  obtain ⟨w', hr, ho', hg⟩ := run_make_full w w.heap.size t e i z 1 ht h1 h2 h3 .i64 .i64 n (by rw [h4]; exact hb) (by unfold maxLen; omega) (Nat.le_refl _)
  refine wpList_plain hgd fun K hK => ?_
  unfold Oper.wp
  simp only [execOp, ho, hl, hc, Sem.run_bind, hr, Result.andThen_ok, Sem.run_pure]
  rw [Oper.upon_value]
  refine hK _ _ (h w' ?_ (Below.grown (Below.refl _ _) hg (Nat.le_refl _) (fun k hk => by cases hk)))
  unfold OwnG
  rw [List.length_replicate, show (List.replicate n z0).flatMap cs = (madeCells z.cells (n * 1)).toList from by
    rw [hzc, Nat.mul_one, toList_madeCells_one]
    clear h hr ho' hm hb hl hc
    induction n with
    | zero => rfl
    | succ n ih => rw [List.replicate_succ, List.flatMap_cons, ih, hz0, List.replicate_succ]; rfl]
  exact ho'
abbrev OwnI (w : World) (base : Nat) (v : Value) (l : List Int) : Prop := OwnG (fun x : Int => [.int .i64 x]) 3 1 w base v l
end
end Go.Proofs.Ytcbainmpikcfjaa
