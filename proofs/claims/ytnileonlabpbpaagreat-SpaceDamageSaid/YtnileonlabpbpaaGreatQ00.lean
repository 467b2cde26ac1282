/- Base; RefA; Ops; RefB; RefC; PageA (merged by group.py) -/
import Derived.Test.YtnileonlabpbpaaGreatProg
import Derived.WalkKit
import Derived.ProofKit
import Derived.OpenShut
import Derived.LoopTactic
import Derived.Lib.Hide
import Derived.Lib.Strings
import Derived.Laws.CopyOwn
import Derived.Laws.BytesArg
import Derived.Laws.MakeOwn
import Derived.Lib.BufferWrite
import Derived.Deep.QuietTactic
import Derived.BigQuiet
import Derived.Deep.RegionHeld3
import Derived.Deep.Draws
import Derived.Outline
import Derived.Deep.AppendLies
namespace Go.Proofs.YtnileonlabpbpaaGreat
section
open Go.RowKit
set_option linter.unusedVariables false
set_option maxRecDepth 20000

/-- The world has only grown: all blocks that were there are as they were. -/
def Ext (w w' : World) : Prop := Below w.heap.size w w'
theorem Ext.refl (w : World) : Ext w w := Below.refl _ _
theorem Ext.trans {a b c : World} (h : Ext a b) (k : Ext b c) : Ext a c := Below.trans h (Below.mono k h.size)
theorem Ext.size {a b : World} (h : Ext a b) : a.heap.size ≤ b.heap.size := Below.size h
theorem Ext.drew {a b : World} (h : Ext a b) : Ext a b.drew := Below.drew h
theorem Ext.drewN {a b : World} (h : Ext a b) (n : Nat) : Ext a (b.drewN n) := ⟨h.os, h.tape, h.output, h.size, h.block⟩
theorem Ext.alloc {a b : World} (h : Ext a b) (o : Obj) : Ext a (b.alloc o) := Below.alloc h h.size o
theorem Ext.setCell {a b : World} (h : Ext a b) {p : Addr} (hp : a.heap.size ≤ p.block) (u : Value) : Ext a (b.setCell p u) := Below.setCell h hp u
theorem Ext.block {a b : World} (h : Ext a b) {k : Nat} (hk : k < a.heap.size) : b.heap[k]? = a.heap[k]? := Below.block h k hk
theorem block_lt {w : World} {a : Addr} {v : Value} (h : w.cell? a = some v) : a.block < w.heap.size := World.block_lt_of_cell? w a h
theorem Ext.cell {a b : World} (h : Ext a b) {p : Addr} {v : Value} (hc : a.cell? p = some v) : b.cell? p = some v := by
  rw [Below.cell h (block_lt hc)]; exact hc
theorem Ext.heap {a b : World} (h : Ext a b) {g : Nat} {o : Obj} (hg : a.heap[g]? = some o) : b.heap[g]? = some o := by
  have hlt : g < a.heap.size := by
    rcases Nat.lt_or_ge g a.heap.size with hlt | hge
    · exact hlt
    · rw [Array.getElem?_eq_none hge] at hg; cases hg
  rw [h.block hlt]; exact hg

theorem ret_int {k : IntKind} {a b : Int} (h : a = b) : Ending.returned (.int k a) = .returned (.int k b) := by rw [h]
theorem ret_bool {a b : Bool} (h : a = b) : Ending.returned (.bool a) = .returned (.bool b) := by rw [h]

theorem quiet_add_left {P : Program} {f : FuncId} {args : Array Value} {w : World} {a n : Nat} {v : Value}
    (h : Calls P f args (w.drewN (a + n)) fun e w' => e = .returned v ∧ w.drewN (a + n) = w') :
    Calls P f args (w.drewN (a + n)) fun e w'' => e = .returned v ∧ ∃ m, w'' = w.drewN (a + m) :=
  h.mono fun _ _ ⟨he, hm⟩ => ⟨he, n, hm.symm⟩
theorem quiet_left {P : Program} {f : FuncId} {args : Array Value} {w : World} {n : Nat} {v : Value}
    (h : Calls P f args (w.drewN n) fun e w' => e = .returned v ∧ w.drewN n = w') : Calls P f args (w.drewN n) fun e w'' => e = .returned v ∧ ∃ m, w'' = w.drewN m :=
  h.mono fun _ _ ⟨he, hm⟩ => ⟨he, n, hm.symm⟩
theorem quiet_add_n {P : Program} {f : FuncId} {args : Array Value} {w : World} {a n : Nat} {v : Value}
    (h : Calls P f args (w.drewN (a + n)) fun e w' => e = .returned v ∧ ∃ m, w' = (w.drewN (a + n)).drewN m) :
    Calls P f args (w.drewN (a + n)) fun e w'' => e = .returned v ∧ ∃ m, w'' = w.drewN (a + m) :=
  h.mono fun _ _ ⟨he, m, hm⟩ => ⟨he, n + m, by rw [hm, World.drewN_drewN, Nat.add_assoc]⟩
theorem quiet_n {P : Program} {f : FuncId} {args : Array Value} {w : World} {n : Nat} {v : Value}
    (h : Calls P f args (w.drewN n) fun e w' => e = .returned v ∧ ∃ m, w' = (w.drewN n).drewN m) :
    Calls P f args (w.drewN n) fun e w'' => e = .returned v ∧ ∃ m, w'' = w.drewN m :=
  h.mono fun _ _ ⟨he, m, hm⟩ => ⟨he, n + m, by rw [hm, World.drewN_drewN]⟩

/-- byte i of a text as a number; 0 beyond its end -/
def bt (p : ByteArray) (i : Nat) : Nat := (p.data.toList.getD i 0).toNat
theorem bt_lt (p : ByteArray) (i : Nat) : bt p i < 256 := UInt8.toNat_lt _
theorem get_bt (p : ByteArray) (i : Nat) (h : i < p.size) : (p[i]'h).toNat = bt p i := by
  have h' : i < p.data.toList.length := by simpa using h
  unfold bt
  rw [List.getD_eq_getElem?_getD, List.getElem?_eq_getElem h']
  rfl
theorem wrap_byte (n : Nat) (h : n < 256) : wrap64 (n : Int) = n := IntWalk.wrap64_in _ ⟨by omega, by omega⟩

theorem toList_nil (s : ByteArray) : s.toList = [] ↔ s.size = 0 := by
  rw [Lib.toList_data, Lib.size_eq]
  exact List.length_eq_zero_iff.symm

/-- A block of bytes of the call's own, known whole. -/
def BB (w : World) (g : Nat) (l : List UInt8) : Prop := w.heap[g]? = some (.cells (l.map fun b => Value.int .u8 b.toNat).toArray 5 (0, 0))
theorem BB.ext {w w' : World} {g : Nat} {l : List UInt8} (h : BB w g l) (he : Ext w w') : BB w' g l := he.heap h
theorem BB.drew {w : World} {g : Nat} {l : List UInt8} (h : BB w g l) : BB w.drew g l := h
theorem BB.lt {w : World} {g : Nat} {l : List UInt8} (h : BB w g l) : g < w.heap.size := by
  rcases Nat.lt_or_ge g w.heap.size with hlt | hge
  · exact hlt
  · unfold BB at h; rw [Array.getElem?_eq_none hge] at h; cases h
theorem BB.cell {w : World} {g : Nat} {l : List UInt8} (h : BB w g l) (i : Nat) (hi : i < l.length) : w.cell? ⟨g, i, none⟩ = some (.int .u8 l[i].toNat) := by
  unfold BB at h
  simp [World.cell?, h, hi]
theorem BB.frozen {w : World} {g : Nat} {l : List UInt8} (h : BB w g l) (i : Nat) : w.frozen? ⟨g, i, none⟩ = false := by
  unfold BB at h
  simp [World.frozen?, h]
theorem BB.set_ {w : World} {g : Nat} {l : List UInt8} (h : BB w g l) (i : Nat) (b : UInt8) : BB (w.setCell ⟨g, i, none⟩ (.int .u8 b.toNat)) g (l.set i b) := by
  unfold BB at h ⊢
  simp [World.setCell, Array.getElem?_modify, h]
theorem BB.new_ {w : World} {C : Array Value} {l : List UInt8} (h : C = (l.map fun b => Value.int .u8 b.toNat).toArray) : BB (w.alloc (.cells C 5)) w.heap.size l := by
  subst h
  exact heap_alloc_new w _
theorem BB.alloc {w : World} {g : Nat} {l : List UInt8} (h : BB w g l) (o : Obj) : BB (w.alloc o) g l := (Below.heap_alloc w o g h.lt).trans h
theorem BB.far {w : World} {g : Nat} {l : List UInt8} (h : BB w g l) {p : Addr} (hp : g ≠ p.block) (u : Value) : BB (w.setCell p u) g l :=
  (Below.heap_setCell w p u g hp).trans h
end
section
open Go.RowKit
set_option linter.unusedVariables false
set_option maxRecDepth 20000

abbrev Cel := Int × ByteArray
/-- The slice value 'A, n' reads as the cells f 0, .., f (n - 1). -/
structure SlC (w : World) (A : Option Addr) (n : Nat) (f : Nat → Cel) : Prop where
  at_ : ∀ i, i < n → ∃ b off, A = some ⟨b, off, none⟩ ∧ w.cell? ⟨b, off + i * 2, none⟩ = some (.int .i64 (f i).1) ∧ w.cell? ⟨b, off + i * 2 + 1, none⟩ = some (.string (f i).2)
theorem SlC.ext {w w' : World} {A : Option Addr} {n : Nat} {f : Nat → Cel} (h : SlC w A n f) (he : Ext w w') : SlC w' A n f :=
  ⟨fun i hi => by obtain ⟨b, off, e, h1, h2⟩ := h.at_ i hi; exact ⟨b, off, e, he.cell h1, he.cell h2⟩⟩
theorem SlC.drew {w : World} {A : Option Addr} {n : Nat} {f : Nat → Cel} (h : SlC w A n f) : SlC w.drew A n f := ⟨h.at_⟩

def sizeB (n : Int) : Bool := decide (32 ≤ n) && decide (n ≤ 4096) && (n % 8 == 0)
theorem refSize_any (n : Int) (w : World) (h0 : -9223372036854775808 ≤ n) (h1 : n ≤ 9223372036854775807) :
    Calls Tryz.prog 17 #[.int .i64 n] w fun e w' => e = .returned (.bool (sizeB n)) ∧ w = w' := by
  by_cases h2 : 32 ≤ n <;> by_cases h3 : n ≤ 4096
  all_goals
    go_enter Tryz.func17, Tryz.ntmps17
    go_wp2
    go_ret
    exact ⟨ret_bool (by simp [sizeB]; try omega), rfl⟩

def bytesF (f : Nat → Cel) : Nat → Nat
  | 0 => 0
  | n + 1 => bytesF f n + (f n).2.size
def lastF (f : Nat → Cel) (n : Nat) : Int := if n = 0 then 0 else (f (n - 1)).1

theorem refBytes_any (A : Option Addr) (cap n : Nat) (f : Nat → Cel) (w : World) (hn : n ≤ 200) (hs : SlC w A n f) (hsz : ∀ i, i < n → (f i).2.size ≤ 140737488355328) :
    Calls Tryz.prog 103 #[.slice A n cap] w fun e w' => e = .returned (.int .i64 (bytesF f n)) ∧ w = w' := by
  go_enter Tryz.func103, Tryz.ntmps103
  go_wp2
  go_loop [3, 4] (fun s i => ∃ k : Nat, k ≤ n ∧ bytesF f k ≤ k * 140737488355328 ∧ i = .int .i64 k ∧ s = .int .i64 (bytesF f k)) (fun _ i => n - (intOf i).toNat)
  case atStart => exact ⟨0, by omega, by simp [bytesF], rfl, rfl⟩
  case round =>
    obtain ⟨k, hk, hb, rfl, rfl⟩ := hrel
    by_cases hlt : k < n
    · obtain ⟨b, off, rfl, h1, h2⟩ := hs.at_ k hlt
      have hz := hsz k hlt
      have hmul : k * 140737488355328 ≤ 200 * 140737488355328 := Nat.mul_le_mul_right _ (by omega)
      go_wp2
      go_round
      case rel => exact ⟨k + 1, by omega, by simp only [bytesF]; omega, by go_num, by simp only [bytesF]; go_num⟩
      case measure => simp [intOf]; omega
    · obtain rfl : k = n := by omega
      go_wp2
      go_ret
      exact ⟨rfl, rfl⟩

theorem refLast_any (A : Option Addr) (cap n : Nat) (f : Nat → Cel) (w : World) (hn : n ≤ 4611686018427387904) (hs : SlC w A n f) :
    Calls Tryz.prog 102 #[.slice A n cap] w fun e w' => e = .returned (.int .i64 (lastF f n)) ∧ w = w' := by
  by_cases h0 : n = 0
  · subst h0
    go_enter Tryz.func102, Tryz.ntmps102
    go_wp2
    go_ret
    exact ⟨ret_int (by simp [lastF]), rfl⟩
  · obtain ⟨m, rfl⟩ : ∃ m, n = m + 1 := ⟨n - 1, by omega⟩
    obtain ⟨b, off, rfl, h1, h2⟩ := hs.at_ m (by omega)
    go_enter Tryz.func102, Tryz.ntmps102
    go_wp2
    go_ret
    exact ⟨ret_int (by simp [lastF]), rfl⟩

def roomF (size : Int) (f : Nat → Cel) (n : Nat) : Int := size - 2 - 4 * lastF f n - bytesF f n
theorem bytesF_le (f : Nat → Cel) (n : Nat) (hsz : ∀ i, i < n → (f i).2.size ≤ 140737488355328) : bytesF f n ≤ n * 140737488355328 := by
  induction n with
  | zero => simp [bytesF]
  | succ n ih =>
    have := ih (fun i hi => hsz i (by omega))
    have := hsz n (by omega)
    simp only [bytesF]; omega
theorem refRoom_any (size : Int) (A : Option Addr) (cap n : Nat) (f : Nat → Cel) (w : World) (hn : n ≤ 200) (hs : SlC w A n f) (hsz : ∀ i, i < n → (f i).2.size ≤ 140737488355328)
    (hl0 : -4096 ≤ lastF f n) (hl1 : lastF f n ≤ 4096) (hz0 : -4096 ≤ size) (hz1 : size ≤ 4096) :
    Calls Tryz.prog 105 #[.int .i64 size, .slice A n cap] w fun e w' => e = .returned (.int .i64 (roomF size f n)) ∧ w = w' := by
  have hb := bytesF_le f n hsz
  have hmul : n * 140737488355328 ≤ 200 * 140737488355328 := Nat.mul_le_mul_right _ (by omega)
  go_enter Tryz.func105, Tryz.ntmps105
  go_wp2_with (first
    | (go_at_call 102; refine (refLast_any _ _ _ f _ (by omega) hs).mono ?_; rintro e w' ⟨rfl, rfl⟩)
    | (go_at_call 103; refine (refBytes_any _ _ _ f _ hn hs hsz).mono ?_; rintro e w' ⟨rfl, rfl⟩))
  go_ret
  exact ⟨ret_int (by simp [roomF]), rfl⟩

/-- the two bytes of a number from 0 to 65535 -/
def hi8 (n : Nat) : UInt8 := UInt8.ofNat (n / 256)
def lo8 (n : Nat) : UInt8 := UInt8.ofNat (n % 256)
def ent (n : Nat) : List UInt8 := [hi8 n, lo8 n]
theorem refTwo_any (n : Int) (w : World) (h0 : 0 ≤ n) (hn : n ≤ 65535) :
    Calls Tryz.prog 113 #[.int .i64 n] w fun e w' => ∃ g, e = .returned (.slice (some ⟨g, 0, none⟩) 2 2) ∧ w.heap.size ≤ g ∧ BB w' g (ent n.toNat) ∧ Ext w w' := by
  obtain ⟨n, rfl⟩ := Int.eq_ofNat_of_zero_le h0
  go_enter Tryz.func113, Tryz.ntmps113
  go_wp2
  go_ret
  exact ⟨w.heap.size, rfl, Nat.le_refl _, BB.new_ (by simp [ent, hi8, lo8]; omega), (Ext.refl w).alloc _⟩

def twoF (p : ByteArray) (i : Nat) : Nat := 256 * bt p i + bt p (i + 1)
theorem refTwo2_any (p : ByteArray) (i : Nat) (w : World) (hp : p.size ≤ 140737488355328) (hi : i + 1 < p.size) :
    Calls Tryz.prog 78 #[.string p, .int .i64 i] w fun e w' => e = .returned (.int .i64 (twoF p i)) ∧ ∃ n, w' = w.drewN n := by
  have h1 : (i : Int) < p.size := by omega
  have h2 : (i : Int) + 1 < p.size := by omega
  have h4 : (0 : Int) ≤ (i : Int) + 1 := by omega
  go_enter Tryz.func78, Tryz.ntmps78
  go_wp2
  go_quiet (fail)
  go_wp2
  go_ret
  have b1 := bt_lt p i
  have b2 := bt_lt p (i + 1)
  refine ⟨ret_int ?_, nq, rfl⟩
  simp only [get_bt, twoF, wrap_byte _ b1, wrap_byte _ b2]
  rw [IntWalk.wrap64_in (256 * (bt p i : Int)) ⟨by omega, by omega⟩, IntWalk.wrap64_in _ ⟨by omega, by omega⟩]
  omega
end
section
open Go.RowKit
set_option linter.unusedVariables false
set_option maxRecDepth 20000

/-- Only block g has changed (and new blocks may be there). -/
def Upd (w : World) (g : Nat) (w' : World) : Prop := w.grownBy w' (some g)
theorem Upd.refl (w : World) (g : Nat) : Upd w g w := ⟨rfl, rfl, rfl, Nat.le_refl _, fun _ _ _ => rfl⟩
theorem Upd.trans {a b c : World} {g : Nat} (h : Upd a g b) (k : Upd b g c) : Upd a g c :=
  ⟨k.os.trans h.os, k.tape.trans h.tape, k.output.trans h.output, Nat.le_trans h.size k.size, fun i hi hne => (k.block i (Nat.lt_of_lt_of_le hi h.size) hne).trans (h.block i hi hne)⟩
theorem Upd.of_ext {a b : World} (h : Ext a b) (g : Nat) : Upd a g b := ⟨h.os, h.tape, h.output, h.size, fun i hi _ => h.block hi⟩
theorem Upd.ext {a b c : World} {g : Nat} (h : Ext a b) (k : Upd b g c) (hg : a.heap.size ≤ g) : Ext a c :=
  Below.grown h k h.size (fun k hk => by injection hk with hk; omega)
theorem Upd.setCell (w : World) (g i : Nat) (v : Value) : Upd w g (w.setCell ⟨g, i, none⟩ v) :=
  ⟨rfl, rfl, rfl, by simp [World.setCell], fun k _ hk => Below.heap_setCell _ _ _ _ (fun e => hk (by simp [e]))⟩
theorem Upd.setRow (w : World) (g : Nat) (cs : Array Value) : Upd w g (w.setRow g cs) :=
  ⟨rfl, rfl, rfl, by simp [World.setRow], fun k _ hk => setRow_other w g k cs (fun e => hk (by simp [e]))⟩
theorem Upd.heap {a b : World} {g : Nat} (h : Upd a g b) {k : Nat} {o : Obj} (hk : a.heap[k]? = some o) (hne : k ≠ g) : b.heap[k]? = some o := by
  have hlt : k < a.heap.size := by
    rcases Nat.lt_or_ge k a.heap.size with hlt | hge
    · exact hlt
    · rw [Array.getElem?_eq_none hge] at hk; cases hk
  rw [h.block k hlt (fun e => hne (by injection e))]; exact hk
theorem Upd.cell {a b : World} {g : Nat} (h : Upd a g b) {p : Addr} {v : Value} (hc : a.cell? p = some v) (hne : p.block ≠ g) : b.cell? p = some v := by
  rw [World.cell?_of_block (h.block p.block (block_lt hc) (fun e => hne (by injection e)))]; exact hc
theorem Upd.drew {a b : World} {g : Nat} (h : Upd a g b) : Upd a g b.drew := ⟨h.os, h.tape, h.output, h.size, h.block⟩

def byteCellsOf (l : List UInt8) : List Value := l.map fun b => Value.int .u8 b.toNat

theorem u8_info : ∃ i, Tryz.prog.info? 5 = some i ∧ i.zero = some (.int .u8 0) ∧ i.size = 1 ∧ i.bytes = 1 := by
  have h : (Tryz.prog.info? 5).map (fun i => (i.zero, i.size, i.bytes)) = some (some (.int .u8 0), 1, 1) := by kernel_rfl
  cases hq : Tryz.prog.info? 5 with
  | none => simp [hq] at h
  | some i => simp [hq] at h; exact ⟨i, rfl, h.1, h.2.1, h.2.2⟩
theorem u8_size : (Tryz.prog.info? 5).map (·.size) = some 1 := by kernel_rfl

section
variable {w : World} {ops : Array Oper} {rest : List Oper} {o : Oper} {a : Act} {K : Act → World → Prop} {Q : Exit → Act → World → Prop} {E : Prop}

theorem wp_make_bytes (l c : Operand) (ho : o.op = .makeSlice 62 l c) (n : Nat) (hl : a.eval l = .int .i64 n) (hc : a.eval c = .int .i64 n) (hn : n ≤ 140737488355328)
    (h : ∀ g w', w.heap.size ≤ g → BB w' g (List.replicate n 0) → Ext w w' → K (a.put o.dst (.slice (some ⟨g, 0, none⟩) n n)) w') : o.wp Tryz.prog a w K Q := by
  obtain ⟨i, hi, hz, hs, hb⟩ := u8_info
  have hr := run_make (P := Tryz.prog) w 62 5 i (.int .u8 0) Tryz.underlying62 hi hz .i64 .i64 (n : Int) (n : Int) (by omega) (by omega) (by rw [hb]; omega) (by omega)
  unfold Oper.wp
  simp only [execOp, ho, hl, hc, Sem.run_bind, hr, Result.andThen_ok, Sem.run_pure]
  have := h w.heap.size (w.alloc (.cells (madeCells #[.int .u8 0] (n * 1)) 5)) (Nat.le_refl _) (BB.new_ (by
    apply Array.ext
    · simp [madeCells]
    · intro j h1 h2
      simp [madeCells, Nat.mod_one])) ((Ext.refl w).alloc _)
  rw [Oper.upon_value]
  simpa [hs, Value.cells] using this
theorem wpList_make_bytes (hgd : o.guard = none) (l c : Operand) (ho : o.op = .makeSlice 62 l c) (n : Nat) (hl : a.eval l = .int .i64 n) (hc : a.eval c = .int .i64 n) (hn : n ≤ 140737488355328)
    (h : ∀ g w', w.heap.size ≤ g → BB w' g (List.replicate n 0) → Ext w w' → wpList Tryz.prog ops Q rest (a.put o.dst (.slice (some ⟨g, 0, none⟩) n n)) w') : wpList Tryz.prog ops Q (o :: rest) a w :=
  wpList_plain hgd fun _ hK => wp_make_bytes l c ho n hl hc hn fun g w' h1 h2 h3 => hK _ _ (h g w' h1 h2 h3)

theorem splice_map {α β : Type} (f : α → β) (L : List α) (k : Nat) (cs : List α) : splice (L.map f) k (cs.map f) = (splice L k cs).map f := by simp [splice]

/-- copy(b[k:], s) of a text that is not empty and fits. -/
theorem wp_copy_str (d s : Operand) (ho : o.op = .call { callee := .builtin .copy, args := #[d, s], argTypes := #[62, 9] }) (g k dLen dCap : Nat) (t : ByteArray) (L : List UInt8)
    (hd : a.eval d = .slice (some ⟨g, k, none⟩) dLen dCap) (hs : a.eval s = .string t) (hg : BB w g L) (hle : t.size ≤ dLen) (hfit : k + t.size ≤ L.length)
    (h : ∀ w', BB w' g (splice L k t.data.toList) → Upd w g w' → K (a.put o.dst (goInt t.size)) w') : o.wp Tryz.prog a w K Q := by
  have hr := Lib.run_copy_row_string (P := Tryz.prog) w 62 9 o.type 5 g k dLen dCap t _ 5 Tryz.underlying62 u8_size hg hle (by simpa using hfit)
  unfold Oper.wp
  simp only [execOp, ho, resolve, invoke, builtin, Sem.run_bind, Sem.run_pure, Result.andThen_ok, List.map_toArray, List.map_cons, List.map_nil, hd, hs, hr]
  refine h _ ?_ (Upd.setRow w g _)
  unfold BB at hg ⊢
  rw [setRow_heap w g _ _ 5 _ hg, ← splice_map]
  have e : t.data.toList.length = t.size := by simp
  simp only [splice, Lib.byteCells, List.length_map, e, List.append_assoc]
theorem wpList_copy_str (hgd : o.guard = none) (d s : Operand) (ho : o.op = .call { callee := .builtin .copy, args := #[d, s], argTypes := #[62, 9] }) (g k dLen dCap : Nat) (t : ByteArray) (L : List UInt8)
    (hd : a.eval d = .slice (some ⟨g, k, none⟩) dLen dCap) (hs : a.eval s = .string t) (hg : BB w g L) (hle : t.size ≤ dLen) (hfit : k + t.size ≤ L.length)
    (h : ∀ w', BB w' g (splice L k t.data.toList) → Upd w g w' → wpList Tryz.prog ops Q rest (a.put o.dst (goInt t.size)) w') : wpList Tryz.prog ops Q (o :: rest) a w :=
  wpList_plain hgd fun _ hK => wp_copy_str d s ho g k dLen dCap t L hd hs hg hle hfit fun w' h1 h2 => hK _ _ (h w' h1 h2)
theorem step_copy_str (hgd : o.guard = none) (d s : Operand) (ho : o.op = .call { callee := .builtin .copy, args := #[d, s], argTypes := #[62, 9] }) (g k dLen dCap : Nat) (t : ByteArray) (L : List UInt8)
    (hd : a.eval d = .slice (some ⟨g, k, none⟩) dLen dCap) (hs : a.eval s = .string t) (hg : BB w g L) (hle : t.size ≤ dLen) (hfit : k + t.size ≤ L.length)
    (h : ∀ w', BB w' g (splice L k t.data.toList) → Upd w g w' → K (a.put o.dst (goInt t.size)) w') : if Region.wanted o (yielded ops a.tmps) = true then Oper.wp Tryz.prog o a w K Q else E := by
  rw [if_pos (by simp [Region.wanted, hgd])]
  exact wp_copy_str d s ho g k dLen dCap t L hd hs hg hle hfit h

/-- copy(b[k:], x) of a block of bytes that fits. -/
theorem wp_copy_bb (d s : Operand) (ho : o.op = .call { callee := .builtin .copy, args := #[d, s], argTypes := #[62, 62] }) (g k dLen dCap g2 n2 c2 : Nat) (L X : List UInt8)
    (hd : a.eval d = .slice (some ⟨g, k, none⟩) dLen dCap) (hs : a.eval s = .slice (some ⟨g2, 0, none⟩) n2 c2) (hg : BB w g L) (hg2 : BB w g2 X) (hX : X.length = n2) (hle : n2 ≤ dLen) (hfit : k + n2 ≤ L.length)
    (h : ∀ w', BB w' g (splice L k X) → Upd w g w' → K (a.put o.dst (goInt n2)) w') : o.wp Tryz.prog a w K Q := by
  have hmin : Nat.min n2 dLen = n2 := Nat.min_eq_left hle
  have hr := run_copy_row (P := Tryz.prog) w 62 62 o.type 5 g k dLen dCap ⟨g2, 0, none⟩ n2 c2 _ 5 (X.map fun b => Value.int .u8 b.toNat) Tryz.underlying62 u8_size hg (by simp [hmin, hX]) (fun j v hj => by
    rw [List.getElem?_map] at hj
    have hjl : j < X.length := by
      rcases Nat.lt_or_ge j X.length with hlt | hge
      · exact hlt
      · rw [List.getElem?_eq_none hge] at hj; cases hj
    rw [List.getElem?_eq_getElem hjl] at hj
    simp only [Option.map_some, Option.some.injEq] at hj
    subst hj
    have := hg2.cell j hjl
    simpa [Addr.add, Nat.zero_add] using (by
      by_cases hj0 : j = 0
      · subst hj0; simpa [Addr.add] using this
      · simpa [Addr.add, hj0] using this)) (by simpa [hX] using hfit) (fun v hv => by
    simp only [List.mem_map] at hv
    obtain ⟨b, _, rfl⟩ := hv
    rfl)
  unfold Oper.wp
  simp only [execOp, ho, resolve, invoke, builtin, Sem.run_bind, Sem.run_pure, Result.andThen_ok, List.map_toArray, List.map_cons, List.map_nil, hd, hs, hr]
  have := h (w.setRow g (splice (L.map fun b => Value.int .u8 b.toNat) k (X.map fun b => Value.int .u8 b.toNat)).toArray) (by
    have hg' := hg
    unfold BB at hg ⊢
    rw [setRow_heap w g _ _ 5 _ hg, splice_map]) (Upd.setRow w g _)
  rw [Oper.upon_value]
  simpa [splice, hX] using this
theorem wpList_copy_bb (hgd : o.guard = none) (d s : Operand) (ho : o.op = .call { callee := .builtin .copy, args := #[d, s], argTypes := #[62, 62] }) (g k dLen dCap g2 n2 c2 : Nat) (L X : List UInt8)
    (hd : a.eval d = .slice (some ⟨g, k, none⟩) dLen dCap) (hs : a.eval s = .slice (some ⟨g2, 0, none⟩) n2 c2) (hg : BB w g L) (hg2 : BB w g2 X) (hX : X.length = n2) (hle : n2 ≤ dLen) (hfit : k + n2 ≤ L.length)
    (h : ∀ w', BB w' g (splice L k X) → Upd w g w' → wpList Tryz.prog ops Q rest (a.put o.dst (goInt n2)) w') : wpList Tryz.prog ops Q (o :: rest) a w :=
  wpList_plain hgd fun _ hK => wp_copy_bb d s ho g k dLen dCap g2 n2 c2 L X hd hs hg hg2 hX hle hfit fun w' h1 h2 => hK _ _ (h w' h1 h2)
theorem step_copy_bb (hgd : o.guard = none) (d s : Operand) (ho : o.op = .call { callee := .builtin .copy, args := #[d, s], argTypes := #[62, 62] }) (g k dLen dCap g2 n2 c2 : Nat) (L X : List UInt8)
    (hd : a.eval d = .slice (some ⟨g, k, none⟩) dLen dCap) (hs : a.eval s = .slice (some ⟨g2, 0, none⟩) n2 c2) (hg : BB w g L) (hg2 : BB w g2 X) (hX : X.length = n2) (hle : n2 ≤ dLen) (hfit : k + n2 ≤ L.length)
    (h : ∀ w', BB w' g (splice L k X) → Upd w g w' → K (a.put o.dst (goInt n2)) w') : if Region.wanted o (yielded ops a.tmps) = true then Oper.wp Tryz.prog o a w K Q else E := by
  rw [if_pos (by simp [Region.wanted, hgd])]
  exact wp_copy_bb d s ho g k dLen dCap g2 n2 c2 L X hd hs hg hg2 hX hle hfit h

/-- string(b) of a block of bytes. -/
theorem wp_text_bb (x : Operand) (ho : o.op = .convert 62 9 x) (g n c : Nat) (L : List UInt8) (hx : a.eval x = .slice (some ⟨g, 0, none⟩) n c) (hg : BB w g L) (hL : L.length = n)
    (h : K (a.put o.dst (.string ⟨L.toArray⟩)) w) : o.wp Tryz.prog a w K Q := by
  subst hL
  have hr := run_convert_bytes_back (P := Tryz.prog) w 62 9 5 ⟨g, 0, none⟩ c L Tryz.underlying62 Tryz.underlying5 Tryz.underlying9 (fun j hj => by
    have := hg.cell j hj
    by_cases hj0 : j = 0
    · subst hj0; simpa [Addr.add] using this
    · simpa [Addr.add, hj0] using this)
  unfold Oper.wp
  simp only [execOp, ho, hx, Sem.run_bind, hr, Result.andThen_ok, Sem.run_pure]
  exact h
theorem wpList_text_bb (hgd : o.guard = none) (x : Operand) (ho : o.op = .convert 62 9 x) (g n c : Nat) (L : List UInt8) (hx : a.eval x = .slice (some ⟨g, 0, none⟩) n c) (hg : BB w g L) (hL : L.length = n)
    (h : wpList Tryz.prog ops Q rest (a.put o.dst (.string ⟨L.toArray⟩)) w) : wpList Tryz.prog ops Q (o :: rest) a w :=
  wpList_plain hgd fun _ hK => wp_text_bb x ho g n c L hx hg hL (hK _ _ h)
end
end
section
open Go.RowKit
set_option linter.unusedVariables false
set_option maxRecDepth 20000

/-- the buffer behind k cells -/
def bufF (size n : Nat) (f : Nat → Cel) : Nat → List UInt8
  | 0 => splice (List.replicate size 0) 0 (ent (lastF f n).toNat)
  | k + 1 => splice (splice (splice (bufF size n f k) (4 * (f k).1.toNat - 2) (ent (size - bytesF f (k + 1)))) (4 * (f k).1.toNat) (ent (f k).2.size)) (size - bytesF f (k + 1)) (f k).2.data.toList

/-- cells that are right and fit -/
structure Fit (size n : Nat) (f : Nat → Cel) : Prop where
  n_le : n ≤ 200
  size_le : size ≤ 4096
  size_ge : 32 ≤ size
  pos : ∀ i, i < n → 1 ≤ (f i).1
  le : ∀ i, i < n → (f i).1 ≤ lastF f n
  data : ∀ i, i < n → 0 < (f i).2.size
  room : 2 + 4 * lastF f n + bytesF f n ≤ size
theorem Fit.last0 {size n : Nat} {f : Nat → Cel} (h : Fit size n f) : 0 ≤ lastF f n := by
  unfold lastF
  by_cases h0 : n = 0
  · simp [h0]
  · rw [if_neg h0]; have := h.pos (n - 1) (by omega); omega
theorem bytesF_mono (f : Nat → Cel) {a b : Nat} (h : a ≤ b) : bytesF f a ≤ bytesF f b := by
  induction b with
  | zero => simp at h; subst h; exact Nat.le_refl _
  | succ b ih =>
    rcases Nat.lt_or_ge a (b + 1) with h1 | h1
    · have := ih (by omega); simp only [bytesF]; omega
    · have : a = b + 1 := by omega
      subst this; exact Nat.le_refl _
theorem length_bufF (size n : Nat) (f : Nat → Cel) (h : Fit size n f) : ∀ k, k ≤ n → (bufF size n f k).length = size := by
  have h0 : 2 ≤ size := by have := h.size_ge; omega
  intro k
  induction k with
  | zero => intro _; unfold bufF; rw [length_splice _ _ _ (by simp [ent]; omega)]; simp
  | succ k ih =>
    intro hk
    have ihk := ih (by omega)
    have h1 := h.pos k (by omega)
    have h2 := h.le k (by omega)
    have h3 := h.room
    have h4 := bytesF_mono f hk
    have h5 : bytesF f (k + 1) = bytesF f k + (f k).2.size := rfl
    unfold bufF
    have hd : (f k).2.data.toList.length = (f k).2.size := by simp
    have l1 : (splice (bufF size n f k) (4 * (f k).1.toNat - 2) (ent (size - bytesF f (k + 1)))).length = size := by
      rw [length_splice _ _ _ (by rw [ihk]; show _ + 2 ≤ size; omega)]; exact ihk
    have l2 : (splice (splice (bufF size n f k) (4 * (f k).1.toNat - 2) (ent (size - bytesF f (k + 1)))) (4 * (f k).1.toNat) (ent (f k).2.size)).length = size := by
      rw [length_splice _ _ _ (by rw [l1]; show _ + 2 ≤ size; omega)]; exact l1
    rw [length_splice _ _ _ (by rw [hd, l2]; omega)]; exact l2

theorem refBuilt_any (size : Nat) (A : Option Addr) (cap n : Nat) (f : Nat → Cel) (w : World) (hs : SlC w A n f) (hf : Fit size n f) (hn : n ≤ 200) :
    Calls Tryz.prog 80 #[.int .i64 size, .slice A n cap] w fun e w' => e = .returned (.string ⟨(bufF size n f n).toArray⟩) ∧ Ext w w' := by
  have z1 := hf.size_le
  have z2 := hf.size_ge
  go_enter Tryz.func80, Tryz.ntmps80
  go_wp2_with (refine wpList_make_bytes rfl _ _ rfl size rfl rfl (by omega) ?_; intro g w1 hg hb1 he1)
  refine (refLast_any _ _ _ f _ (by omega) (hs.ext he1)).mono ?_
  rintro e w' ⟨rfl, rfl⟩
  have l0 := hf.last0
  have hroom := hf.room
  go_wp2_with fail
  refine (refTwo_any _ _ l0 (by omega)).mono ?_
  rintro e w2 ⟨g2, rfl, hg2, hb2, he2⟩
  go_wp2_with (refine wpList_copy_bb rfl _ _ rfl g 0 size size g2 2 2 _ _ rfl rfl (hb1.ext he2) hb2 rfl (by omega) (by simp; omega) ?_; intro w3 hb3 hu3)
  have he3 : Ext w w3 := Upd.ext (he1.trans he2) hu3 hg
  clear hu3 hb2 hb1
  go_loopw [6, 7] (fun e i wr => ∃ k : Nat, k ≤ n ∧ i = .int .i64 k ∧ e = .int .i64 ((size : Int) - bytesF f k) ∧ BB wr g (bufF size n f k) ∧ Ext w wr) (fun _ i _ => n - (intOf i).toNat)
  case atStart => exact ⟨0, by omega, rfl, by simp [bytesF], hb3, he3⟩
  case round =>
    obtain ⟨k, hk, rfl, rfl, hbr, her⟩ := hrel
    clear hb3 he3
    by_cases hlt : k < n
    · obtain ⟨b, off, rfl, h1w, h2w⟩ := hs.at_ k hlt
      have h1 := her.cell h1w
      have h2 := her.cell h2w
      have hd5 : (f k).2.data.toList.length = (f k).2.size := by simp
      have p1 := hf.pos k hlt
      have p2 := hf.le k hlt
      have p3 := hf.data k hlt
      have m1 := bytesF_mono f (show k + 1 ≤ n by omega)
      have m2 : bytesF f (k + 1) = bytesF f k + (f k).2.size := rfl
      have m3 : bytesF f k + (f k).2.size ≤ bytesF f n := by omega
      obtain ⟨L, hL⟩ := Int.eq_ofNat_of_zero_le (show 0 ≤ (f k).1 by omega)
      have lb := length_bufF size n f hf k hk
      rw [hL] at h1 p1 p2
      have H2 := Lib.hid m2
      have HL := Lib.hid hL
      have HB := Lib.hid lb
      have HD := Lib.hid hd5
      clear hd5
      clear m1 m2 hL lb
      go_wp2_with fail
      have q1 : (2 : Int) ≤ 4 * (L : Int) := by omega
      have q2 : 4 * (L : Int) - 2 ≤ (size : Int) := by omega
      have q3 : (4 * (L : Int) - 2).toNat = 4 * L - 2 := by omega
      have q4 : ¬ size = 4 * L - 2 := by omega
      go_region_law (first
        | (refine step_copy_bb rfl _ _ rfl g (4 * L - 2) (size - (4 * L - 2)) (size - (4 * L - 2)) g4 2 2 _ _ rfl rfl (hbr.drew.ext he4) hb4 rfl ?_ ?_ ?_; (omega); (rw [HB.out]; omega); intro w5 hb5 hu5)
        | (go_simp; go_at_call 113; refine (refTwo_any _ _ ?_ ?_).mono ?_; (omega); (omega); rintro e w4 ⟨g4, rfl, hg4, hb4, he4⟩))
      have he5 : Ext w w5 := Upd.ext ((her.drew).trans he4) hu5 hg
      have h2b := he5.cell h2w
      have L5 : (splice (bufF size n f k) (4 * L - 2) (ent ((size : Int) - bytesF f k - (f k).2.size).toNat)).length = size := by
        rw [length_splice _ _ _ (by rw [HB.out]; show _ + 2 ≤ size; omega)]; exact HB.out
      have H5 := Lib.hid L5
      clear L5 hu5 hb4 he4 h1 h2 hbr q1 q2 q3 q4
      go_wp2_with fail
      have q1 : (2 : Int) ≤ 4 * (L : Int) := by omega
      have q2 : 4 * (L : Int) ≤ (size : Int) := by omega
      have q3 : (4 * (L : Int)).toNat = 4 * L := by omega
      have q4 : ¬ size = 4 * L := by omega
      have q5 : (0 : Int) ≤ 4 * (L : Int) := by omega
      have q0 : IntKind.i64.wrap (4 * (L : Int)) = 4 * (L : Int) := IntWalk.i64_in _ (by omega)
      go_region_law (first
        | (refine step_copy_bb rfl _ _ rfl g (4 * L) (size - 4 * L) (size - 4 * L) g6 2 2 _ _ rfl rfl (hb5.drew.ext he6) hb6 rfl ?_ ?_ ?_; (omega); (rw [H5.out]; omega); intro w7 hb7 hu7)
        | (go_simp; go_at_call 113; refine (refTwo_any _ _ ?_ ?_).mono ?_; (omega); (omega); rintro e w6 ⟨g6, rfl, hg6, hb6, he6⟩))
      have he7 : Ext w w7 := Upd.ext ((he5.drew).trans he6) hu7 hg
      have h2c := he7.cell h2w
      clear hu7 hb6 he6 h2b hb5 q0 q1 q2 q3 q4 q5
      have L7 : (splice (splice (bufF size n f k) (4 * L - 2) (ent ((size : Int) - bytesF f k - (f k).2.size).toNat)) (4 * L) (ent ((f k).2.size : Int).toNat)).length = size := by
        rw [length_splice _ _ _ (by rw [H5.out]; show _ + 2 ≤ size; omega)]; exact H5.out
      have H7 := Lib.hid L7
      clear L7
      go_wp2_with fail
      have q1 : ((f k).2.size : Int) ≤ (size : Int) - bytesF f k := by omega
      have q2 : (size : Int) - bytesF f k - (f k).2.size ≤ (size : Int) := by omega
      have q3 : ((size : Int) - bytesF f k - (f k).2.size).toNat = size - bytesF f k - (f k).2.size := by omega
      have q4 : ¬ size = size - bytesF f k - (f k).2.size := by omega
      go_region_law (refine step_copy_str rfl _ _ rfl g (size - bytesF f k - (f k).2.size) (size - (size - bytesF f k - (f k).2.size)) (size - (size - bytesF f k - (f k).2.size)) _ _ rfl rfl hb7.drew ?_ ?_ ?_; (omega); (rw [H7.out]; omega); intro w9 hb9 hu9)
      have he9 : Ext w w9 := Upd.ext he7.drew hu9 hg
      have hb9' : BB w9 g (bufF size n f (k + 1)) := by
        have e1 : size - bytesF f (k + 1) = size - bytesF f k - (f k).2.size := by rw [H2.out]; omega
        have e2 : ((size : Int) - bytesF f k - (f k).2.size).toNat = size - bytesF f k - (f k).2.size := by omega
        unfold bufF
        rw [e1, HL.out]
        rw [e2] at hb9
        exact hb9
      clear hu9 hb9 h2c hb7 q1 q2 q3 q4
      go_wp2_with fail
      go_roundw
      case rel => exact ⟨k + 1, by omega, by go_num, by rw [H2.out]; go_num, hb9', he9⟩
      case measure => simp [intOf]; omega
    · obtain rfl : k = n := by omega
      go_wp2_with (refine wpList_text_bb rfl _ rfl g size size _ rfl hbr (length_bufF size _ f hf _ (Nat.le_refl _)) ?_)
      go_ret
      exact ⟨rfl, her⟩
end
section
open Go.RowKit
set_option linter.unusedVariables false
set_option maxRecDepth 20000

def BadF (f : Nat → Cel) (i : Nat) : Prop := (f i).1 < 1 ∨ 200 < (f i).1 ∨ (0 < i ∧ (f i).1 ≤ (f (i - 1)).1) ∨ (f i).2.size = 0
def AnyBad (f : Nat → Cel) (n : Nat) : Prop := ∃ i, i < n ∧ BadF f i
open Classical in
/-- what Fill comes to -/
noncomputable def fillRes (size : Int) (n : Nat) (f : Nat → Cel) : ByteArray × Int :=
  if AnyBad f n then (⟨#[]⟩, 1) else if sizeB size = false then (⟨#[]⟩, 7) else if roomF size f n < 0 then (⟨#[]⟩, 13) else (⟨(bufF size.toNat n f n).toArray⟩, 0)
theorem ret_pair {s t : ByteArray} {a b : Int} (h1 : s = t) (h2 : a = b) : Ending.returned (.tuple #[.string s, .int .i64 a]) = .returned (.tuple #[.string t, .int .i64 b]) := by rw [h1, h2]

theorem lines_up {f : Nat → Cel} {n : Nat} (h : ¬ AnyBad f n) : ∀ i j, i ≤ j → j < n → (f i).1 ≤ (f j).1 := by
  intro i j hij hj
  induction j with
  | zero => have : i = 0 := by omega
            subst this; exact Int.le_refl _
  | succ j ih =>
    rcases Nat.lt_or_ge i (j + 1) with h1 | h1
    · have h2 := ih (by omega) (by omega)
      have h3 : ¬ BadF f (j + 1) := fun hb => h ⟨j + 1, hj, hb⟩
      unfold BadF at h3
      simp only [Nat.add_sub_cancel] at h3
      omega
    · have : i = j + 1 := by omega
      subst this; exact Int.le_refl _
theorem good_at {f : Nat → Cel} {n : Nat} (h : ¬ AnyBad f n) (i : Nat) (hi : i < n) : 1 ≤ (f i).1 ∧ (f i).1 ≤ 200 ∧ 0 < (f i).2.size := by
  have h3 : ¬ BadF f i := fun hb => h ⟨i, hi, hb⟩
  unfold BadF at h3
  omega
theorem last_of_good {f : Nat → Cel} {n : Nat} (h : ¬ AnyBad f n) : 0 ≤ lastF f n ∧ lastF f n ≤ 200 := by
  unfold lastF
  by_cases h0 : n = 0
  · simp [h0]
  · rw [if_neg h0]; have := good_at h (n - 1) (by omega); omega
theorem fit_of_good {f : Nat → Cel} {n : Nat} {size : Nat} (h : ¬ AnyBad f n) (hn : n ≤ 200) (hs : sizeB (size : Int) = true) (hr : ¬ roomF size f n < 0) : Fit size n f := by
  simp only [sizeB, Bool.and_eq_true, decide_eq_true_eq] at hs
  refine ⟨hn, by omega, by omega, fun i hi => (good_at h i hi).1, fun i hi => ?_, fun i hi => (good_at h i hi).2.2, ?_⟩
  · unfold lastF
    rw [if_neg (by omega)]
    exact lines_up h i (n - 1) (by omega) (by omega)
  · unfold roomF at hr; omega
end
section
open Go.RowKit
set_option linter.unusedVariables false
set_option maxRecDepth 20000

theorem ofInt_i64 (a : Nat) (ha : a < 9223372036854775808) : (BitVec.ofInt 64 (a : Int)).toNat = a := by
  rw [BitVec.ofInt_natCast, BitVec.toNat_ofNat]; exact Nat.mod_eq_of_lt (by omega)
theorem i64_or_nat (a b : Nat) (ha : a < 9223372036854775808) (hb : b < 9223372036854775808) : bits .or .i64 (a : Int) (b : Int) = ((a ||| b : Nat) : Int) := by
  have hx : a ||| b < 2 ^ 63 := Nat.or_lt_two_pow (by omega) (by omega)
  show IntKind.i64.wrap ((BitVec.ofInt 64 (a : Int) ||| BitVec.ofInt 64 (b : Int)).toNat : Int) = _
  rw [BitVec.toNat_or, ofInt_i64 a ha, ofInt_i64 b hb, IntKind.wrap_i64]
  omega
theorem or_two (a b : Nat) (ha : a < 256) (hb : b < 256) : bits .or .i64 (wrap64 ((a : Int) * 256)) (b : Int) = ((256 * a + b : Nat) : Int) := by
  rw [IntWalk.wrap64_in _ ⟨by omega, by omega⟩]
  have e : (a : Int) * 256 = ((256 * a : Nat) : Int) := by omega
  rw [e, i64_or_nat _ _ (by omega) (by omega)]
  have := Nat.two_pow_add_eq_or_of_lt (i := 8) (b := b) (by omega) a
  simp only [Nat.reducePow] at this
  rw [this]
theorem set_two (L : List UInt8) (k : Nat) (x y : UInt8) (h : k + 2 ≤ L.length) : (L.set k x).set (k + 1) y = splice L k [x, y] := by
  apply List.ext_getElem
  · rw [length_splice _ _ _ (by simpa using h)]; simp
  · intro i h1 h2
    simp only [splice, List.getElem_set]
    simp only [List.length_set] at h1
    by_cases c1 : i < k
    · rw [List.getElem_append_left (by simp; omega)]
      simp [show ¬ k + 1 = i by omega, show ¬ k = i by omega]
    · rw [List.getElem_append_right (by simp; omega)]
      have hk : min k L.length = k := by omega
      by_cases c2 : i = k
      · subst c2
        simp [hk]
      · by_cases c3 : i = k + 1
        · subst c3
          simp [hk]
        · rw [List.getElem_append_right (by simp; omega)]
          simp [hk, show ¬ k + 1 = i by omega, show ¬ k = i by omega]
          congr 1
          omega
theorem hi8_val (n : Nat) (h : n ≤ 65535) : ((hi8 n).toNat : Int) = (n : Int) / 256 := by
  unfold hi8
  have : (UInt8.ofNat (n / 256)).toNat = n / 256 := by simp; omega
  rw [this]; omega
theorem lo8_val (n : Nat) : ((lo8 n).toNat : Int) = (n : Int) % 256 := by
  unfold lo8
  have : (UInt8.ofNat (n % 256)).toNat = n % 256 := by simp
  rw [this]; omega

theorem size_any (n : Int) (w : World) (h0 : -9223372036854775808 ≤ n) (h1 : n ≤ 9223372036854775807) :
    Calls Tryz.prog 108 #[.int .i64 n] w fun e w' => e = .returned (.bool (sizeB n)) ∧ w = w' := by
  by_cases h2 : 32 ≤ n <;> by_cases h3 : n ≤ 4096
  all_goals
    go_enter Tryz.func108, Tryz.ntmps108
    go_wp2
    go_ret
    exact ⟨ret_bool (by simp [sizeB]; try omega), rfl⟩

def lineB (n : Int) : Bool := decide (1 ≤ n) && decide (n ≤ 200)
theorem line_any (n : Int) (w : World) (h0 : -9223372036854775808 ≤ n) (h1 : n ≤ 9223372036854775807) :
    Calls Tryz.prog 116 #[.int .i64 n] w fun e w' => e = .returned (.bool (lineB n)) ∧ w = w' := by
  by_cases h2 : 1 ≤ n <;> by_cases h3 : n ≤ 200
  all_goals
    go_enter Tryz.func116, Tryz.ntmps116
    go_wp2
    go_ret
    exact ⟨ret_bool (by simp [lineB]; try omega), rfl⟩

theorem two_any (p : ByteArray) (i : Nat) (w : World) (hp : p.size ≤ 140737488355328) (hi : i + 1 < p.size) :
    Calls Tryz.prog 128 #[.string p, .int .i64 i] w fun e w' => e = .returned (.int .i64 (twoF p i)) ∧ ∃ n, w' = w.drewN n := by
  have h1 : (i : Int) < p.size := by omega
  have h2 : (i : Int) + 1 < p.size := by omega
  have h4 : (0 : Int) ≤ (i : Int) + 1 := by omega
  go_enter Tryz.func128, Tryz.ntmps128
  go_wp2
  go_quiet (fail)
  go_wp2
  go_ret
  have b1 := bt_lt p i
  have b2 := bt_lt p (i + 1)
  refine ⟨ret_int ?_, nq, rfl⟩
  simp only [get_bt, twoF, wrap_byte _ b1, wrap_byte _ b2]
  rw [or_two _ _ b1 b2]
theorem count_any (p : ByteArray) (w : World) (hp : p.size ≤ 140737488355328) (hi : 1 < p.size) :
    Calls Tryz.prog 109 #[.string p] w fun e w' => e = .returned (.int .i64 (twoF p 0)) ∧ ∃ n, w' = w.drewN n := by
  go_enter Tryz.func109, Tryz.ntmps109
  go_wp2_with (go_at_call 128; refine (two_any p 0 _ hp (by omega)).mono ?_; rintro e w' ⟨rfl, n, rfl⟩)
  go_ret
  exact ⟨rfl, n, rfl⟩
theorem put_any (g : Nat) (L : List UInt8) (cap : Nat) (ai ni : Int) (w : World) (hb : BB w g L) (hl : L.length = cap) (hc : cap ≤ 4096) (ha0 : 0 ≤ ai) (ha : ai + 2 ≤ cap) (hn0 : 0 ≤ ni) (hn : ni ≤ 65535) :
    Calls Tryz.prog 122 #[.slice (some ⟨g, 0, none⟩) cap cap, .int .i64 ai, .int .i64 ni] w fun e w' => e = .returned (.tuple #[]) ∧ BB w' g (splice L ai.toNat (ent ni.toNat)) ∧ Upd w g w' := by
  obtain ⟨at_, rfl⟩ := Int.eq_ofNat_of_zero_le ha0
  obtain ⟨n, rfl⟩ := Int.eq_ofNat_of_zero_le hn0
  have c1 := hb.cell at_ (by omega)
  have c2 := hb.cell (at_ + 1) (by omega)
  have f1 := hb.frozen at_
  have f2 := hb.frozen (at_ + 1)
  go_enter Tryz.func122, Tryz.ntmps122
  go_wp2
  go_end0
  rw [← hi8_val n (by omega), ← lo8_val n]
  refine ⟨rfl, ?_, (Upd.setCell w g at_ _).trans (Upd.setCell _ g (at_ + 1) _)⟩
  have := (hb.set_ at_ (hi8 n)).set_ (at_ + 1) (lo8 n)
  rw [set_two L at_ _ _ (by omega)] at this
  exact this
end
end Go.Proofs.YtnileonlabpbpaaGreat
