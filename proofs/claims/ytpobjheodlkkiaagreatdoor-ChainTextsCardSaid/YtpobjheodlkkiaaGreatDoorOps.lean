/- Laws for operations on blocks of bytes of the call's own: make, copy, the text of a block. -/
import Derived.Test.YtpobjheodlkkiaaGreatDoorBase
namespace Go.Proofs.YtpobjheodlkkiaaGreatDoor
open Go.RowKit
set_option linter.unusedVariables false
set_option maxRecDepth 20000

/-- Only block g has changed (and new blocks may be there). -/
def Upd (w : World) (g : Nat) (w' : World) : Prop := w.grownBy w' (some g)
theorem Upd.refl (w : World) (g : Nat) : Upd w g w := ⟨rfl, rfl, rfl, Nat.le_refl _, fun _ _ _ => rfl⟩
theorem Upd.trans {a b c : World} {g : Nat} (h : Upd a g b) (k : Upd b g c) : Upd a g c :=
  ⟨k.os.trans h.os, k.tape.trans h.tape, k.output.trans h.output, Nat.le_trans h.size k.size, fun i hi hne => (k.block i (Nat.lt_of_lt_of_le hi h.size) hne).trans (h.block i hi hne)⟩
theorem Upd.of_ext {a b : World} (h : Ext a b) (g : Nat) : Upd a g b := ⟨h.os, h.tape, h.output, h.size, fun i hi _ => h.block hi⟩
theorem Upd.ext {a b c : World} {g : Nat} (h : Ext a b) (k : Upd b g c) (hg : a.heap.size ≤ g) : Ext a c :=
  Below.grown h k h.size (fun k hk => by injection hk with hk; omega)
theorem Upd.setCell (w : World) (g i : Nat) (v : Value) : Upd w g (w.setCell ⟨g, i, none⟩ v) :=
  ⟨rfl, rfl, rfl, by simp [World.setCell], fun k _ hk => Below.heap_setCell _ _ _ _ (fun e => hk (by simp [e]))⟩
theorem Upd.setRow (w : World) (g : Nat) (cs : Array Value) : Upd w g (w.setRow g cs) :=
  ⟨rfl, rfl, rfl, by simp [World.setRow], fun k _ hk => setRow_other w g k cs (fun e => hk (by simp [e]))⟩
theorem Upd.heap {a b : World} {g : Nat} (h : Upd a g b) {k : Nat} {o : Obj} (hk : a.heap[k]? = some o) (hne : k ≠ g) : b.heap[k]? = some o := by
  have hlt : k < a.heap.size := by
    rcases Nat.lt_or_ge k a.heap.size with hlt | hge
    · exact hlt
    · rw [Array.getElem?_eq_none hge] at hk; cases hk
  rw [h.block k hlt (fun e => hne (by injection e))]; exact hk
theorem Upd.cell {a b : World} {g : Nat} (h : Upd a g b) {p : Addr} {v : Value} (hc : a.cell? p = some v) (hne : p.block ≠ g) : b.cell? p = some v := by
  rw [World.cell?_of_block (h.block p.block (block_lt hc) (fun e => hne (by injection e)))]; exact hc
theorem Upd.drew {a b : World} {g : Nat} (h : Upd a g b) : Upd a g b.drew := ⟨h.os, h.tape, h.output, h.size, h.block⟩

def byteCellsOf (l : List UInt8) : List Value := l.map fun b => Value.int .u8 b.toNat

theorem u8_info : ∃ i, Tryz.prog.info? 5 = some i ∧ i.zero = some (.int .u8 0) ∧ i.size = 1 ∧ i.bytes = 1 := by
  have h : (Tryz.prog.info? 5).map (fun i => (i.zero, i.size, i.bytes)) = some (some (.int .u8 0), 1, 1) := by kernel_rfl
  cases hq : Tryz.prog.info? 5 with
  | none => simp [hq] at h
  | some i => simp [hq] at h; exact ⟨i, rfl, h.1, h.2.1, h.2.2⟩
theorem u8_size : (Tryz.prog.info? 5).map (·.size) = some 1 := by kernel_rfl

section
variable {w : World} {ops : Array Oper} {rest : List Oper} {o : Oper} {a : Act} {K : Act → World → Prop} {Q : Exit → Act → World → Prop} {E : Prop}

theorem wp_make_bytes (l c : Operand) (ho : o.op = .makeSlice 36 l c) (n : Nat) (hl : a.eval l = .int .i64 n) (hc : a.eval c = .int .i64 n) (hn : n ≤ 140737488355328)
    (h : ∀ g w', w.heap.size ≤ g → BB w' g (List.replicate n 0) → Ext w w' → K (a.put o.dst (.slice (some ⟨g, 0, none⟩) n n)) w') : o.wp Tryz.prog a w K Q := by
  obtain ⟨i, hi, hz, hs, hb⟩ := u8_info
  have hr := run_make (P := Tryz.prog) w 36 5 i (.int .u8 0) Tryz.underlying36 hi hz .i64 .i64 (n : Int) (n : Int) (by omega) (by omega) (by rw [hb]; omega) (by omega)
  unfold Oper.wp
  simp only [execOp, ho, hl, hc, Sem.run_bind, hr, Result.andThen_ok, Sem.run_pure]
  have := h w.heap.size (w.alloc (.cells (madeCells #[.int .u8 0] (n * 1)) 5)) (Nat.le_refl _) (BB.new_ (by
    apply Array.ext
    · simp [madeCells]
    · intro j h1 h2
      simp [madeCells, Nat.mod_one])) ((Ext.refl w).alloc _)
  rw [Oper.upon_value]
  simpa [hs, Value.cells] using this
theorem wpList_make_bytes (hgd : o.guard = none) (l c : Operand) (ho : o.op = .makeSlice 36 l c) (n : Nat) (hl : a.eval l = .int .i64 n) (hc : a.eval c = .int .i64 n) (hn : n ≤ 140737488355328)
    (h : ∀ g w', w.heap.size ≤ g → BB w' g (List.replicate n 0) → Ext w w' → wpList Tryz.prog ops Q rest (a.put o.dst (.slice (some ⟨g, 0, none⟩) n n)) w') : wpList Tryz.prog ops Q (o :: rest) a w :=
  wpList_plain hgd fun _ hK => wp_make_bytes l c ho n hl hc hn fun g w' h1 h2 h3 => hK _ _ (h g w' h1 h2 h3)

theorem splice_map {α β : Type} (f : α → β) (L : List α) (k : Nat) (cs : List α) : splice (L.map f) k (cs.map f) = (splice L k cs).map f := by simp [splice]

/-- copy(b[k:], s) of a text that is not empty and fits. -/
theorem wp_copy_str (d s : Operand) (ho : o.op = .call { callee := .builtin .copy, args := #[d, s], argTypes := #[36, 9] }) (g k dLen dCap : Nat) (t : ByteArray) (L : List UInt8)
    (hd : a.eval d = .slice (some ⟨g, k, none⟩) dLen dCap) (hs : a.eval s = .string t) (hg : BB w g L) (hle : t.size ≤ dLen) (hfit : k + t.size ≤ L.length)
    (h : ∀ w', BB w' g (splice L k t.data.toList) → Upd w g w' → K (a.put o.dst (goInt t.size)) w') : o.wp Tryz.prog a w K Q := by
  have hr := Lib.run_copy_row_string (P := Tryz.prog) w 36 9 o.type 5 g k dLen dCap t _ 5 Tryz.underlying36 u8_size hg hle (by simpa using hfit)
  unfold Oper.wp
  simp only [execOp, ho, resolve, invoke, builtin, Sem.run_bind, Sem.run_pure, Result.andThen_ok, List.map_toArray, List.map_cons, List.map_nil, hd, hs, hr]
  refine h _ ?_ (Upd.setRow w g _)
  unfold BB at hg ⊢
  rw [setRow_heap w g _ _ 5 _ hg, ← splice_map]
  have e : t.data.toList.length = t.size := by simp
  simp only [splice, Lib.byteCells, List.length_map, e, List.append_assoc]
theorem wpList_copy_str (hgd : o.guard = none) (d s : Operand) (ho : o.op = .call { callee := .builtin .copy, args := #[d, s], argTypes := #[36, 9] }) (g k dLen dCap : Nat) (t : ByteArray) (L : List UInt8)
    (hd : a.eval d = .slice (some ⟨g, k, none⟩) dLen dCap) (hs : a.eval s = .string t) (hg : BB w g L) (hle : t.size ≤ dLen) (hfit : k + t.size ≤ L.length)
    (h : ∀ w', BB w' g (splice L k t.data.toList) → Upd w g w' → wpList Tryz.prog ops Q rest (a.put o.dst (goInt t.size)) w') : wpList Tryz.prog ops Q (o :: rest) a w :=
  wpList_plain hgd fun _ hK => wp_copy_str d s ho g k dLen dCap t L hd hs hg hle hfit fun w' h1 h2 => hK _ _ (h w' h1 h2)
theorem step_copy_str (hgd : o.guard = none) (d s : Operand) (ho : o.op = .call { callee := .builtin .copy, args := #[d, s], argTypes := #[36, 9] }) (g k dLen dCap : Nat) (t : ByteArray) (L : List UInt8)
    (hd : a.eval d = .slice (some ⟨g, k, none⟩) dLen dCap) (hs : a.eval s = .string t) (hg : BB w g L) (hle : t.size ≤ dLen) (hfit : k + t.size ≤ L.length)
    (h : ∀ w', BB w' g (splice L k t.data.toList) → Upd w g w' → K (a.put o.dst (goInt t.size)) w') : if Region.wanted o (yielded ops a.tmps) = true then Oper.wp Tryz.prog o a w K Q else E := by
  rw [if_pos (by simp [Region.wanted, hgd])]
  exact wp_copy_str d s ho g k dLen dCap t L hd hs hg hle hfit h

/-- copy(b[k:], x) of a block of bytes that fits. -/
theorem wp_copy_bb (d s : Operand) (ho : o.op = .call { callee := .builtin .copy, args := #[d, s], argTypes := #[36, 36] }) (g k dLen dCap g2 n2 c2 : Nat) (L X : List UInt8)
    (hd : a.eval d = .slice (some ⟨g, k, none⟩) dLen dCap) (hs : a.eval s = .slice (some ⟨g2, 0, none⟩) n2 c2) (hg : BB w g L) (hg2 : BB w g2 X) (hX : X.length = n2) (hle : n2 ≤ dLen) (hfit : k + n2 ≤ L.length)
    (h : ∀ w', BB w' g (splice L k X) → Upd w g w' → K (a.put o.dst (goInt n2)) w') : o.wp Tryz.prog a w K Q := by
  have hmin : Nat.min n2 dLen = n2 := Nat.min_eq_left hle
  have hr := run_copy_row (P := Tryz.prog) w 36 36 o.type 5 g k dLen dCap ⟨g2, 0, none⟩ n2 c2 _ 5 (X.map fun b => Value.int .u8 b.toNat) Tryz.underlying36 u8_size hg (by simp [hmin, hX]) (fun j v hj => by
    rw [List.getElem?_map] at hj
    have hjl : j < X.length := by
      rcases Nat.lt_or_ge j X.length with hlt | hge
      · exact hlt
      · rw [List.getElem?_eq_none hge] at hj; cases hj
    rw [List.getElem?_eq_getElem hjl] at hj
    simp only [Option.map_some, Option.some.injEq] at hj
    subst hj
    have := hg2.cell j hjl
    simpa [Addr.add, Nat.zero_add] using (by
      by_cases hj0 : j = 0
      · subst hj0; simpa [Addr.add] using this
      · simpa [Addr.add, hj0] using this)) (by simpa [hX] using hfit) (fun v hv => by
    simp only [List.mem_map] at hv
    obtain ⟨b, _, rfl⟩ := hv
    rfl)
  unfold Oper.wp
  simp only [execOp, ho, resolve, invoke, builtin, Sem.run_bind, Sem.run_pure, Result.andThen_ok, List.map_toArray, List.map_cons, List.map_nil, hd, hs, hr]
  have := h (w.setRow g (splice (L.map fun b => Value.int .u8 b.toNat) k (X.map fun b => Value.int .u8 b.toNat)).toArray) (by
    have hg' := hg
    unfold BB at hg ⊢
    rw [setRow_heap w g _ _ 5 _ hg, splice_map]) (Upd.setRow w g _)
  rw [Oper.upon_value]
  simpa [splice, hX] using this
theorem wpList_copy_bb (hgd : o.guard = none) (d s : Operand) (ho : o.op = .call { callee := .builtin .copy, args := #[d, s], argTypes := #[36, 36] }) (g k dLen dCap g2 n2 c2 : Nat) (L X : List UInt8)
    (hd : a.eval d = .slice (some ⟨g, k, none⟩) dLen dCap) (hs : a.eval s = .slice (some ⟨g2, 0, none⟩) n2 c2) (hg : BB w g L) (hg2 : BB w g2 X) (hX : X.length = n2) (hle : n2 ≤ dLen) (hfit : k + n2 ≤ L.length)
    (h : ∀ w', BB w' g (splice L k X) → Upd w g w' → wpList Tryz.prog ops Q rest (a.put o.dst (goInt n2)) w') : wpList Tryz.prog ops Q (o :: rest) a w :=
  wpList_plain hgd fun _ hK => wp_copy_bb d s ho g k dLen dCap g2 n2 c2 L X hd hs hg hg2 hX hle hfit fun w' h1 h2 => hK _ _ (h w' h1 h2)
theorem step_copy_bb (hgd : o.guard = none) (d s : Operand) (ho : o.op = .call { callee := .builtin .copy, args := #[d, s], argTypes := #[36, 36] }) (g k dLen dCap g2 n2 c2 : Nat) (L X : List UInt8)
    (hd : a.eval d = .slice (some ⟨g, k, none⟩) dLen dCap) (hs : a.eval s = .slice (some ⟨g2, 0, none⟩) n2 c2) (hg : BB w g L) (hg2 : BB w g2 X) (hX : X.length = n2) (hle : n2 ≤ dLen) (hfit : k + n2 ≤ L.length)
    (h : ∀ w', BB w' g (splice L k X) → Upd w g w' → K (a.put o.dst (goInt n2)) w') : if Region.wanted o (yielded ops a.tmps) = true then Oper.wp Tryz.prog o a w K Q else E := by
  rw [if_pos (by simp [Region.wanted, hgd])]
  exact wp_copy_bb d s ho g k dLen dCap g2 n2 c2 L X hd hs hg hg2 hX hle hfit h

/-- string(b) of a block of bytes. -/
theorem wp_text_bb (x : Operand) (ho : o.op = .convert 36 9 x) (g n c : Nat) (L : List UInt8) (hx : a.eval x = .slice (some ⟨g, 0, none⟩) n c) (hg : BB w g L) (hL : L.length = n)
    (h : K (a.put o.dst (.string ⟨L.toArray⟩)) w) : o.wp Tryz.prog a w K Q := by
  subst hL
  have hr := run_convert_bytes_back (P := Tryz.prog) w 36 9 5 ⟨g, 0, none⟩ c L Tryz.underlying36 Tryz.underlying5 Tryz.underlying9 (fun j hj => by
    have := hg.cell j hj
    by_cases hj0 : j = 0
    · subst hj0; simpa [Addr.add] using this
    · simpa [Addr.add, hj0] using this)
  unfold Oper.wp
  simp only [execOp, ho, hx, Sem.run_bind, hr, Result.andThen_ok, Sem.run_pure]
  exact h
theorem wpList_text_bb (hgd : o.guard = none) (x : Operand) (ho : o.op = .convert 36 9 x) (g n c : Nat) (L : List UInt8) (hx : a.eval x = .slice (some ⟨g, 0, none⟩) n c) (hg : BB w g L) (hL : L.length = n)
    (h : wpList Tryz.prog ops Q rest (a.put o.dst (.string ⟨L.toArray⟩)) w) : wpList Tryz.prog ops Q (o :: rest) a w :=
  wpList_plain hgd fun _ hK => wp_text_bb x ho g n c L hx hg hL (hK _ _ h)
end

end Go.Proofs.YtpobjheodlkkiaaGreatDoor
