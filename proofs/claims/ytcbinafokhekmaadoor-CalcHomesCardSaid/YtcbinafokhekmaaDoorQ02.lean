/- Ops; ItA; ItB (merged by group.py) -/
import Derived.Test.YtcbinafokhekmaaDoorQ00
namespace Go.Proofs.YtcbinafokhekmaaDoor
section
open Go.RowKit
set_option linter.unusedVariables false
set_option maxRecDepth 20000

/-- Only block g has changed (and new blocks may be there). -/
def Upd (w : World) (g : Nat) (w' : World) : Prop := w.grownBy w' (some g)
theorem Upd.refl (w : World) (g : Nat) : Upd w g w := ⟨rfl, rfl, rfl, Nat.le_refl _, fun _ _ _ => rfl⟩
theorem Upd.trans {a b c : World} {g : Nat} (h : Upd a g b) (k : Upd b g c) : Upd a g c :=
  ⟨k.os.trans h.os, k.tape.trans h.tape, k.output.trans h.output, Nat.le_trans h.size k.size, fun i hi hne => (k.block i (Nat.lt_of_lt_of_le hi h.size) hne).trans (h.block i hi hne)⟩
theorem Upd.of_ext {a b : World} (h : Ext a b) (g : Nat) : Upd a g b := ⟨h.os, h.tape, h.output, h.size, fun i hi _ => h.block hi⟩
theorem Upd.ext {a b c : World} {g : Nat} (h : Ext a b) (k : Upd b g c) (hg : a.heap.size ≤ g) : Ext a c :=
  Below.grown h k h.size (fun k hk => by injection hk with hk; omega)
theorem Upd.setCell (w : World) (g i : Nat) (v : Value) : Upd w g (w.setCell ⟨g, i, none⟩ v) :=
  ⟨rfl, rfl, rfl, by simp [World.setCell], fun k _ hk => Below.heap_setCell _ _ _ _ (fun e => hk (by simp [e]))⟩
theorem Upd.setRow (w : World) (g : Nat) (cs : Array Value) : Upd w g (w.setRow g cs) :=
  ⟨rfl, rfl, rfl, by simp [World.setRow], fun k _ hk => setRow_other w g k cs (fun e => hk (by simp [e]))⟩
theorem Upd.heap {a b : World} {g : Nat} (h : Upd a g b) {k : Nat} {o : Obj} (hk : a.heap[k]? = some o) (hne : k ≠ g) : b.heap[k]? = some o := by
  have hlt : k < a.heap.size := by
    rcases Nat.lt_or_ge k a.heap.size with hlt | hge
    · exact hlt
    · rw [Array.getElem?_eq_none hge] at hk; cases hk
  rw [h.block k hlt (fun e => hne (by injection e))]; exact hk
theorem Upd.cell {a b : World} {g : Nat} (h : Upd a g b) {p : Addr} {v : Value} (hc : a.cell? p = some v) (hne : p.block ≠ g) : b.cell? p = some v := by
  rw [World.cell?_of_block (h.block p.block (block_lt hc) (fun e => hne (by injection e)))]; exact hc
theorem Upd.drew {a b : World} {g : Nat} (h : Upd a g b) : Upd a g b.drew := ⟨h.os, h.tape, h.output, h.size, h.block⟩

def byteCellsOf (l : List UInt8) : List Value := l.map fun b => Value.int .u8 b.toNat

theorem u8_info : ∃ i, Tryd.prog.info? 5 = some i ∧ i.zero = some (.int .u8 0) ∧ i.size = 1 ∧ i.bytes = 1 := by
  have h : (Tryd.prog.info? 5).map (fun i => (i.zero, i.size, i.bytes)) = some (some (.int .u8 0), 1, 1) := by kernel_rfl
  cases hq : Tryd.prog.info? 5 with
  | none => simp [hq] at h
  | some i => simp [hq] at h; exact ⟨i, rfl, h.1, h.2.1, h.2.2⟩
theorem u8_size : (Tryd.prog.info? 5).map (·.size) = some 1 := by kernel_rfl

section
variable {w : World} {ops : Array Oper} {rest : List Oper} {o : Oper} {a : Act} {K : Act → World → Prop} {Q : Exit → Act → World → Prop} {E : Prop}

theorem wp_make_bytes (l c : Operand) (ho : o.op = .makeSlice 103 l c) (n : Nat) (hl : a.eval l = .int .i64 n) (hc : a.eval c = .int .i64 n) (hn : n ≤ 140737488355328)
    (h : ∀ g w', w.heap.size ≤ g → BB w' g (List.replicate n 0) → Ext w w' → K (a.put o.dst (.slice (some ⟨g, 0, none⟩) n n)) w') : o.wp Tryd.prog a w K Q := by
  obtain ⟨i, hi, hz, hs, hb⟩ := u8_info
  have hr := run_make (P := Tryd.prog) w 103 5 i (.int .u8 0) Tryd.underlying103 hi hz .i64 .i64 (n : Int) (n : Int) (by omega) (by omega) (by rw [hb]; omega) (by omega)
  unfold Oper.wp
  simp only [execOp, ho, hl, hc, Sem.run_bind, hr, Result.andThen_ok, Sem.run_pure]
  have := h w.heap.size (w.alloc (.cells (madeCells #[.int .u8 0] (n * 1)) 5)) (Nat.le_refl _) (BB.new_ (by
    apply Array.ext
    · simp [madeCells]
    · intro j h1 h2
      simp [madeCells, Nat.mod_one])) ((Ext.refl w).alloc _)
  rw [Oper.upon_value]
  simpa [hs, Value.cells] using this
theorem wpList_make_bytes (hgd : o.guard = none) (l c : Operand) (ho : o.op = .makeSlice 103 l c) (n : Nat) (hl : a.eval l = .int .i64 n) (hc : a.eval c = .int .i64 n) (hn : n ≤ 140737488355328)
    (h : ∀ g w', w.heap.size ≤ g → BB w' g (List.replicate n 0) → Ext w w' → wpList Tryd.prog ops Q rest (a.put o.dst (.slice (some ⟨g, 0, none⟩) n n)) w') : wpList Tryd.prog ops Q (o :: rest) a w :=
  wpList_plain hgd fun _ hK => wp_make_bytes l c ho n hl hc hn fun g w' h1 h2 h3 => hK _ _ (h g w' h1 h2 h3)

theorem splice_map {α β : Type} (f : α → β) (L : List α) (k : Nat) (cs : List α) : splice (L.map f) k (cs.map f) = (splice L k cs).map f := by simp [splice]

/-- copy(b[k:], s) of a text that is not empty and fits. -/
theorem wp_copy_str (d s : Operand) (ho : o.op = .call { callee := .builtin .copy, args := #[d, s], argTypes := #[103, 9] }) (g k dLen dCap : Nat) (t : ByteArray) (L : List UInt8)
    (hd : a.eval d = .slice (some ⟨g, k, none⟩) dLen dCap) (hs : a.eval s = .string t) (hg : BB w g L) (hle : t.size ≤ dLen) (hfit : k + t.size ≤ L.length)
    (h : ∀ w', BB w' g (splice L k t.data.toList) → Upd w g w' → K (a.put o.dst (goInt t.size)) w') : o.wp Tryd.prog a w K Q := by
  have hr := Lib.run_copy_row_string (P := Tryd.prog) w 103 9 o.type 5 g k dLen dCap t _ 5 Tryd.underlying103 u8_size hg hle (by simpa using hfit)
  unfold Oper.wp
  simp only [execOp, ho, resolve, invoke, builtin, Sem.run_bind, Sem.run_pure, Result.andThen_ok, List.map_toArray, List.map_cons, List.map_nil, hd, hs, hr]
  refine h _ ?_ (Upd.setRow w g _)
  unfold BB at hg ⊢
  rw [setRow_heap w g _ _ 5 _ hg, ← splice_map]
  have e : t.data.toList.length = t.size := by simp
  simp only [splice, Lib.byteCells, List.length_map, e, List.append_assoc]
theorem wpList_copy_str (hgd : o.guard = none) (d s : Operand) (ho : o.op = .call { callee := .builtin .copy, args := #[d, s], argTypes := #[103, 9] }) (g k dLen dCap : Nat) (t : ByteArray) (L : List UInt8)
    (hd : a.eval d = .slice (some ⟨g, k, none⟩) dLen dCap) (hs : a.eval s = .string t) (hg : BB w g L) (hle : t.size ≤ dLen) (hfit : k + t.size ≤ L.length)
    (h : ∀ w', BB w' g (splice L k t.data.toList) → Upd w g w' → wpList Tryd.prog ops Q rest (a.put o.dst (goInt t.size)) w') : wpList Tryd.prog ops Q (o :: rest) a w :=
  wpList_plain hgd fun _ hK => wp_copy_str d s ho g k dLen dCap t L hd hs hg hle hfit fun w' h1 h2 => hK _ _ (h w' h1 h2)
theorem step_copy_str (hgd : o.guard = none) (d s : Operand) (ho : o.op = .call { callee := .builtin .copy, args := #[d, s], argTypes := #[103, 9] }) (g k dLen dCap : Nat) (t : ByteArray) (L : List UInt8)
    (hd : a.eval d = .slice (some ⟨g, k, none⟩) dLen dCap) (hs : a.eval s = .string t) (hg : BB w g L) (hle : t.size ≤ dLen) (hfit : k + t.size ≤ L.length)
    (h : ∀ w', BB w' g (splice L k t.data.toList) → Upd w g w' → K (a.put o.dst (goInt t.size)) w') : if Region.wanted o (yielded ops a.tmps) = true then Oper.wp Tryd.prog o a w K Q else E := by
  rw [if_pos (by simp [Region.wanted, hgd])]
  exact wp_copy_str d s ho g k dLen dCap t L hd hs hg hle hfit h

/-- copy(b[k:], x) of a block of bytes that fits. -/
theorem wp_copy_bb (d s : Operand) (ho : o.op = .call { callee := .builtin .copy, args := #[d, s], argTypes := #[103, 103] }) (g k dLen dCap g2 n2 c2 : Nat) (L X : List UInt8)
    (hd : a.eval d = .slice (some ⟨g, k, none⟩) dLen dCap) (hs : a.eval s = .slice (some ⟨g2, 0, none⟩) n2 c2) (hg : BB w g L) (hg2 : BB w g2 X) (hX : X.length = n2) (hle : n2 ≤ dLen) (hfit : k + n2 ≤ L.length)
    (h : ∀ w', BB w' g (splice L k X) → Upd w g w' → K (a.put o.dst (goInt n2)) w') : o.wp Tryd.prog a w K Q := by
  have hmin : Nat.min n2 dLen = n2 := Nat.min_eq_left hle
  have hr := run_copy_row (P := Tryd.prog) w 103 103 o.type 5 g k dLen dCap ⟨g2, 0, none⟩ n2 c2 _ 5 (X.map fun b => Value.int .u8 b.toNat) Tryd.underlying103 u8_size hg (by simp [hmin, hX]) (fun j v hj => by
    rw [List.getElem?_map] at hj
    have hjl : j < X.length := by
      rcases Nat.lt_or_ge j X.length with hlt | hge
      · exact hlt
      · rw [List.getElem?_eq_none hge] at hj; cases hj
    rw [List.getElem?_eq_getElem hjl] at hj
    simp only [Option.map_some, Option.some.injEq] at hj
    subst hj
    have := hg2.cell j hjl
    simpa [Addr.add, Nat.zero_add] using (by
      by_cases hj0 : j = 0
      · subst hj0; simpa [Addr.add] using this
      · simpa [Addr.add, hj0] using this)) (by simpa [hX] using hfit) (fun v hv => by
    simp only [List.mem_map] at hv
    obtain ⟨b, _, rfl⟩ := hv
    rfl)
  unfold Oper.wp
  simp only [execOp, ho, resolve, invoke, builtin, Sem.run_bind, Sem.run_pure, Result.andThen_ok, List.map_toArray, List.map_cons, List.map_nil, hd, hs, hr]
  have := h (w.setRow g (splice (L.map fun b => Value.int .u8 b.toNat) k (X.map fun b => Value.int .u8 b.toNat)).toArray) (by
    have hg' := hg
    unfold BB at hg ⊢
    rw [setRow_heap w g _ _ 5 _ hg, splice_map]) (Upd.setRow w g _)
  rw [Oper.upon_value]
  simpa [splice, hX] using this
theorem wpList_copy_bb (hgd : o.guard = none) (d s : Operand) (ho : o.op = .call { callee := .builtin .copy, args := #[d, s], argTypes := #[103, 103] }) (g k dLen dCap g2 n2 c2 : Nat) (L X : List UInt8)
    (hd : a.eval d = .slice (some ⟨g, k, none⟩) dLen dCap) (hs : a.eval s = .slice (some ⟨g2, 0, none⟩) n2 c2) (hg : BB w g L) (hg2 : BB w g2 X) (hX : X.length = n2) (hle : n2 ≤ dLen) (hfit : k + n2 ≤ L.length)
    (h : ∀ w', BB w' g (splice L k X) → Upd w g w' → wpList Tryd.prog ops Q rest (a.put o.dst (goInt n2)) w') : wpList Tryd.prog ops Q (o :: rest) a w :=
  wpList_plain hgd fun _ hK => wp_copy_bb d s ho g k dLen dCap g2 n2 c2 L X hd hs hg hg2 hX hle hfit fun w' h1 h2 => hK _ _ (h w' h1 h2)
theorem step_copy_bb (hgd : o.guard = none) (d s : Operand) (ho : o.op = .call { callee := .builtin .copy, args := #[d, s], argTypes := #[103, 103] }) (g k dLen dCap g2 n2 c2 : Nat) (L X : List UInt8)
    (hd : a.eval d = .slice (some ⟨g, k, none⟩) dLen dCap) (hs : a.eval s = .slice (some ⟨g2, 0, none⟩) n2 c2) (hg : BB w g L) (hg2 : BB w g2 X) (hX : X.length = n2) (hle : n2 ≤ dLen) (hfit : k + n2 ≤ L.length)
    (h : ∀ w', BB w' g (splice L k X) → Upd w g w' → K (a.put o.dst (goInt n2)) w') : if Region.wanted o (yielded ops a.tmps) = true then Oper.wp Tryd.prog o a w K Q else E := by
  rw [if_pos (by simp [Region.wanted, hgd])]
  exact wp_copy_bb d s ho g k dLen dCap g2 n2 c2 L X hd hs hg hg2 hX hle hfit h

/-- string(b) of a block of bytes. -/
theorem wp_text_bb (x : Operand) (ho : o.op = .convert 103 9 x) (g n c : Nat) (L : List UInt8) (hx : a.eval x = .slice (some ⟨g, 0, none⟩) n c) (hg : BB w g L) (hL : L.length = n)
    (h : K (a.put o.dst (.string ⟨L.toArray⟩)) w) : o.wp Tryd.prog a w K Q := by
  subst hL
  have hr := run_convert_bytes_back (P := Tryd.prog) w 103 9 5 ⟨g, 0, none⟩ c L Tryd.underlying103 Tryd.underlying5 Tryd.underlying9 (fun j hj => by
    have := hg.cell j hj
    by_cases hj0 : j = 0
    · subst hj0; simpa [Addr.add] using this
    · simpa [Addr.add, hj0] using this)
  unfold Oper.wp
  simp only [execOp, ho, hx, Sem.run_bind, hr, Result.andThen_ok, Sem.run_pure]
  exact h
theorem wpList_text_bb (hgd : o.guard = none) (x : Operand) (ho : o.op = .convert 103 9 x) (g n c : Nat) (L : List UInt8) (hx : a.eval x = .slice (some ⟨g, 0, none⟩) n c) (hg : BB w g L) (hL : L.length = n)
    (h : wpList Tryd.prog ops Q rest (a.put o.dst (.string ⟨L.toArray⟩)) w) : wpList Tryd.prog ops Q (o :: rest) a w :=
  wpList_plain hgd fun _ hK => wp_text_bb x ho g n c L hx hg hL (hK _ _ h)
end
end
section
open Go.RowKit
set_option linter.unusedVariables false
set_option maxRecDepth 20000
set_option linter.unusedSimpArgs false
set_option linter.unusedSectionVars false

/-- a slice of elements that lie in the cells 'cs' tells -/
structure SlG {α : Type} (cs : α → List Value) (w : World) (P : Option Addr) (cap : Nat) (l : List α) : Prop where
  at_ : ∀ (i : Nat) (x : α), l[i]? = some x → ∃ b off, P = some ⟨b, off, none⟩ ∧ ∀ (j : Nat) (v : Value), (cs x)[j]? = some v → w.cell? ⟨b, off + i * (cs x).length + j, none⟩ = some v
  le : l.length ≤ cap
  cap : cap ≤ 9223372036854775807
theorem SlG.ext {α : Type} {cs : α → List Value} {w w' : World} {P : Option Addr} {cap : Nat} {l : List α} (h : SlG cs w P cap l) (hx : Ext w w') : SlG cs w' P cap l :=
  ⟨fun i x hi => by obtain ⟨b, off, e, h1⟩ := h.at_ i x hi; exact ⟨b, off, e, fun j v hj => hx.cell (h1 j v hj)⟩, h.le, h.cap⟩
theorem SlG.nil {α : Type} (cs : α → List Value) (w : World) : SlG cs w none 0 [] := ⟨fun i x hi => by simp at hi, Nat.le_refl _, by omega⟩
theorem SlG.len {α : Type} {cs : α → List Value} {w : World} {P : Option Addr} {cap : Nat} {l : List α} (h : SlG cs w P cap l) : l.length ≤ 9223372036854775807 := Nat.le_trans h.le h.cap

/-- a value: its kind, its number, its text -/
abbrev Vl := Int × Int × ByteArray
def Vl.cells (x : Vl) : List Value := [.int .i64 x.1, .int .i64 x.2.1, .string x.2.2]
def Vl.v (x : Vl) : Value := .agg #[.int .i64 x.1, .int .i64 x.2.1, .string x.2.2]
/-- an item: its name, its kind, its least and its greatest number, its length -/
abbrev It := ByteArray × Int × Int × Int × Int
def It.cells (x : It) : List Value := [.string x.1, .int .i64 x.2.1, .int .i64 x.2.2.1, .int .i64 x.2.2.2.1, .int .i64 x.2.2.2.2]
def It.v (x : It) : Value := .agg #[.string x.1, .int .i64 x.2.1, .int .i64 x.2.2.1, .int .i64 x.2.2.2.1, .int .i64 x.2.2.2.2]
abbrev SlV := @SlG Vl Vl.cells
abbrev SlT := @SlG It It.cells
abbrev SlS := @SlG ByteArray (fun s => [.string s])
def nthV (l : List Vl) (i : Nat) : Vl := l.getD i (0, 0, ⟨#[]⟩)
def nthT (l : List It) (i : Nat) : It := l.getD i (⟨#[]⟩, 0, 0, 0, 0)
def nthS (l : List ByteArray) (i : Nat) : ByteArray := l.getD i ⟨#[]⟩
theorem nthV_some {l : List Vl} {i : Nat} (h : i < l.length) : l[i]? = some (nthV l i) := by simp [nthV, List.getD_eq_getElem?_getD, h]
theorem nthT_some {l : List It} {i : Nat} (h : i < l.length) : l[i]? = some (nthT l i) := by simp [nthT, List.getD_eq_getElem?_getD, h]
theorem nthS_some {l : List ByteArray} {i : Nat} (h : i < l.length) : l[i]? = some (nthS l i) := by simp [nthS, List.getD_eq_getElem?_getD, h]
theorem nthV_mem {l : List Vl} {i : Nat} (h : i < l.length) : nthV l i ∈ l := List.mem_of_getElem? (nthV_some h)
theorem nthT_mem {l : List It} {i : Nat} (h : i < l.length) : nthT l i ∈ l := List.mem_of_getElem? (nthT_some h)
theorem nthS_mem {l : List ByteArray} {i : Nat} (h : i < l.length) : nthS l i ∈ l := List.mem_of_getElem? (nthS_some h)
theorem SlG.valAt {w : World} {P : Option Addr} {cap : Nat} {l : List Vl} (h : SlV w P cap l) (i : Nat) (hi : i < l.length) :
    ∃ b off, P = some ⟨b, off, none⟩ ∧ w.cell? ⟨b, off + i * 3, none⟩ = some (.int .i64 (nthV l i).1) ∧ w.cell? ⟨b, off + i * 3 + 1, none⟩ = some (.int .i64 (nthV l i).2.1) ∧ w.cell? ⟨b, off + i * 3 + 2, none⟩ = some (.string (nthV l i).2.2) := by
  obtain ⟨b, off, e, h1⟩ := h.at_ i _ (nthV_some hi)
  exact ⟨b, off, e, h1 0 _ rfl, h1 1 _ rfl, h1 2 _ rfl⟩
theorem SlG.itemAt {w : World} {P : Option Addr} {cap : Nat} {l : List It} (h : SlT w P cap l) (i : Nat) (hi : i < l.length) :
    ∃ b off, P = some ⟨b, off, none⟩ ∧ w.cell? ⟨b, off + i * 5, none⟩ = some (.string (nthT l i).1) ∧ w.cell? ⟨b, off + i * 5 + 1, none⟩ = some (.int .i64 (nthT l i).2.1) ∧ w.cell? ⟨b, off + i * 5 + 2, none⟩ = some (.int .i64 (nthT l i).2.2.1) ∧
      w.cell? ⟨b, off + i * 5 + 3, none⟩ = some (.int .i64 (nthT l i).2.2.2.1) ∧ w.cell? ⟨b, off + i * 5 + 4, none⟩ = some (.int .i64 (nthT l i).2.2.2.2) := by
  obtain ⟨b, off, e, h1⟩ := h.at_ i _ (nthT_some hi)
  exact ⟨b, off, e, h1 0 _ rfl, h1 1 _ rfl, h1 2 _ rfl, h1 3 _ rfl, h1 4 _ rfl⟩
theorem SlG.nameAt {w : World} {P : Option Addr} {cap : Nat} {l : List ByteArray} (h : SlS w P cap l) (i : Nat) (hi : i < l.length) :
    ∃ b off, P = some ⟨b, off, none⟩ ∧ w.cell? ⟨b, off + i, none⟩ = some (.string (nthS l i)) := by
  obtain ⟨b, off, e, h1⟩ := h.at_ i _ (nthS_some hi)
  refine ⟨b, off, e, ?_⟩
  have := h1 0 _ rfl
  simpa using this
end
section
open Go.RowKit
set_option linter.unusedVariables false
set_option maxRecDepth 20000
set_option linter.unusedSimpArgs false
set_option linter.unusedSectionVars false
set_option maxRecDepth 20000
attribute [local go_sem] Oper.semAt_some

def smallB (c : Int) : Bool := decide (97 ≤ c ∧ c ≤ 122)
def innerB (c : Int) : Bool := smallB c || decide (48 ≤ c ∧ c ≤ 57) || (c == 95)
def byteN (s : ByteArray) (i : Nat) : Int := if h : i < s.size then ((s[i]'h).toNat : Int) else 0
theorem byteN_in (s : ByteArray) (i : Nat) : 0 ≤ byteN s i ∧ byteN s i ≤ 255 := by
  unfold byteN
  split
  · next h => have := (s[i]'h).toNat_lt; omega
  · omega
def nameF (s : ByteArray) : Bool := decide (1 ≤ s.size ∧ s.size ≤ 16) && smallB (byteN s 0) && (List.range s.size).all fun i => innerB (byteN s i)
theorem nameF_iff {s : ByteArray} : nameF s = true ↔ (1 ≤ s.size ∧ s.size ≤ 16) ∧ smallB (byteN s 0) = true ∧ ∀ i, i < s.size → innerB (byteN s i) = true := by
  simp [nameF, and_assoc]
theorem nameF_no {s : ByteArray} (h : ¬ ((1 ≤ s.size ∧ s.size ≤ 16) ∧ smallB (byteN s 0) = true ∧ ∀ i, i < s.size → innerB (byteN s i) = true)) : nameF s = false := by
  cases hv : nameF s with
  | false => rfl
  | true => exact absurd (nameF_iff.1 hv) h
theorem str_index (s : ByteArray) (k : Nat) (hk : k < s.size) (w : World) : (Instr.index 9 (.string s) (.int .i64 (k : Int))).run Tryd.prog w = .ok (.int .u8 (byteN s k)) w := by
  rw [run_index_string (P := Tryd.prog) (w := w) 9 s .i64 (k : Int) Tryd.underlying9, dif_pos ⟨by omega, by omega⟩]
  unfold byteN
  rw [dif_pos hk]
  rfl
theorem smallB_no {c : Int} (h : ¬ (97 ≤ c ∧ c ≤ 122)) : smallB c = false := decide_eq_false h
theorem smallB_yes {c : Int} (h : 97 ≤ c ∧ c ≤ 122) : smallB c = true := decide_eq_true h
end
end Go.Proofs.YtcbinafokhekmaaDoor
