/- Base; CaA (merged by group.py) -/
import Derived.Test.YtcbinafokhekmaaDoorProg
import Derived.WalkKit
import Derived.ProofKit
import Derived.OpenShut
import Derived.LoopTactic
import Derived.Lib.Hide
import Derived.Lib.Strings
import Derived.Laws.CopyOwn
import Derived.Laws.BytesArg
import Derived.Laws.MakeOwn
import Derived.Lib.BufferWrite
import Derived.Deep.QuietTactic
import Derived.BigQuiet
import Derived.Deep.RegionHeld3
import Derived.Deep.Draws
namespace Go.Proofs.YtcbinafokhekmaaDoor
section
open Go.RowKit
set_option linter.unusedVariables false
set_option maxRecDepth 20000

/-- The world has only grown: all blocks that were there are as they were. -/
def Ext (w w' : World) : Prop := Below w.heap.size w w'
theorem Ext.refl (w : World) : Ext w w := Below.refl _ _
theorem Ext.trans {a b c : World} (h : Ext a b) (k : Ext b c) : Ext a c := Below.trans h (Below.mono k h.size)
theorem Ext.size {a b : World} (h : Ext a b) : a.heap.size ≤ b.heap.size := Below.size h
theorem Ext.drew {a b : World} (h : Ext a b) : Ext a b.drew := Below.drew h
theorem Ext.drewN {a b : World} (h : Ext a b) (n : Nat) : Ext a (b.drewN n) := ⟨h.os, h.tape, h.output, h.size, h.block⟩
theorem Ext.alloc {a b : World} (h : Ext a b) (o : Obj) : Ext a (b.alloc o) := Below.alloc h h.size o
theorem Ext.setCell {a b : World} (h : Ext a b) {p : Addr} (hp : a.heap.size ≤ p.block) (u : Value) : Ext a (b.setCell p u) := Below.setCell h hp u
theorem Ext.block {a b : World} (h : Ext a b) {k : Nat} (hk : k < a.heap.size) : b.heap[k]? = a.heap[k]? := Below.block h k hk
theorem block_lt {w : World} {a : Addr} {v : Value} (h : w.cell? a = some v) : a.block < w.heap.size := World.block_lt_of_cell? w a h
theorem Ext.cell {a b : World} (h : Ext a b) {p : Addr} {v : Value} (hc : a.cell? p = some v) : b.cell? p = some v := by
  rw [Below.cell h (block_lt hc)]; exact hc
theorem Ext.heap {a b : World} (h : Ext a b) {g : Nat} {o : Obj} (hg : a.heap[g]? = some o) : b.heap[g]? = some o := by
  have hlt : g < a.heap.size := by
    rcases Nat.lt_or_ge g a.heap.size with hlt | hge
    · exact hlt
    · rw [Array.getElem?_eq_none hge] at hg; cases hg
  rw [h.block hlt]; exact hg

theorem ret_int {k : IntKind} {a b : Int} (h : a = b) : Ending.returned (.int k a) = .returned (.int k b) := by rw [h]
theorem ret_bool {a b : Bool} (h : a = b) : Ending.returned (.bool a) = .returned (.bool b) := by rw [h]

theorem quiet_add_left {P : Program} {f : FuncId} {args : Array Value} {w : World} {a n : Nat} {v : Value}
    (h : Calls P f args (w.drewN (a + n)) fun e w' => e = .returned v ∧ w.drewN (a + n) = w') :
    Calls P f args (w.drewN (a + n)) fun e w'' => e = .returned v ∧ ∃ m, w'' = w.drewN (a + m) :=
  h.mono fun _ _ ⟨he, hm⟩ => ⟨he, n, hm.symm⟩
theorem quiet_left {P : Program} {f : FuncId} {args : Array Value} {w : World} {n : Nat} {v : Value}
    (h : Calls P f args (w.drewN n) fun e w' => e = .returned v ∧ w.drewN n = w') : Calls P f args (w.drewN n) fun e w'' => e = .returned v ∧ ∃ m, w'' = w.drewN m :=
  h.mono fun _ _ ⟨he, hm⟩ => ⟨he, n, hm.symm⟩
theorem quiet_add_n {P : Program} {f : FuncId} {args : Array Value} {w : World} {a n : Nat} {v : Value}
    (h : Calls P f args (w.drewN (a + n)) fun e w' => e = .returned v ∧ ∃ m, w' = (w.drewN (a + n)).drewN m) :
    Calls P f args (w.drewN (a + n)) fun e w'' => e = .returned v ∧ ∃ m, w'' = w.drewN (a + m) :=
  h.mono fun _ _ ⟨he, m, hm⟩ => ⟨he, n + m, by rw [hm, World.drewN_drewN, Nat.add_assoc]⟩
theorem quiet_n {P : Program} {f : FuncId} {args : Array Value} {w : World} {n : Nat} {v : Value}
    (h : Calls P f args (w.drewN n) fun e w' => e = .returned v ∧ ∃ m, w' = (w.drewN n).drewN m) :
    Calls P f args (w.drewN n) fun e w'' => e = .returned v ∧ ∃ m, w'' = w.drewN m :=
  h.mono fun _ _ ⟨he, m, hm⟩ => ⟨he, n + m, by rw [hm, World.drewN_drewN]⟩

/-- byte i of a text as a number; 0 beyond its end -/
def bt (p : ByteArray) (i : Nat) : Nat := (p.data.toList.getD i 0).toNat
theorem bt_lt (p : ByteArray) (i : Nat) : bt p i < 256 := UInt8.toNat_lt _
theorem get_bt (p : ByteArray) (i : Nat) (h : i < p.size) : (p[i]'h).toNat = bt p i := by
  have h' : i < p.data.toList.length := by simpa using h
  unfold bt
  rw [List.getD_eq_getElem?_getD, List.getElem?_eq_getElem h']
  rfl
theorem wrap_byte (n : Nat) (h : n < 256) : wrap64 (n : Int) = n := IntWalk.wrap64_in _ ⟨by omega, by omega⟩

theorem toList_nil (s : ByteArray) : s.toList = [] ↔ s.size = 0 := by
  rw [Lib.toList_data, Lib.size_eq]
  exact List.length_eq_zero_iff.symm

/-- A block of bytes of the call's own, known whole. -/
def BB (w : World) (g : Nat) (l : List UInt8) : Prop := w.heap[g]? = some (.cells (l.map fun b => Value.int .u8 b.toNat).toArray 5 (0, 0))
theorem BB.ext {w w' : World} {g : Nat} {l : List UInt8} (h : BB w g l) (he : Ext w w') : BB w' g l := he.heap h
theorem BB.drew {w : World} {g : Nat} {l : List UInt8} (h : BB w g l) : BB w.drew g l := h
theorem BB.lt {w : World} {g : Nat} {l : List UInt8} (h : BB w g l) : g < w.heap.size := by
  rcases Nat.lt_or_ge g w.heap.size with hlt | hge
  · exact hlt
  · unfold BB at h; rw [Array.getElem?_eq_none hge] at h; cases h
theorem BB.cell {w : World} {g : Nat} {l : List UInt8} (h : BB w g l) (i : Nat) (hi : i < l.length) : w.cell? ⟨g, i, none⟩ = some (.int .u8 l[i].toNat) := by
  unfold BB at h
  simp [World.cell?, h, hi]
theorem BB.frozen {w : World} {g : Nat} {l : List UInt8} (h : BB w g l) (i : Nat) : w.frozen? ⟨g, i, none⟩ = false := by
  unfold BB at h
  simp [World.frozen?, h]
theorem BB.set_ {w : World} {g : Nat} {l : List UInt8} (h : BB w g l) (i : Nat) (b : UInt8) : BB (w.setCell ⟨g, i, none⟩ (.int .u8 b.toNat)) g (l.set i b) := by
  unfold BB at h ⊢
  simp [World.setCell, Array.getElem?_modify, h]
theorem BB.new_ {w : World} {C : Array Value} {l : List UInt8} (h : C = (l.map fun b => Value.int .u8 b.toNat).toArray) : BB (w.alloc (.cells C 5)) w.heap.size l := by
  subst h
  exact heap_alloc_new w _
theorem BB.alloc {w : World} {g : Nat} {l : List UInt8} (h : BB w g l) (o : Obj) : BB (w.alloc o) g l := (Below.heap_alloc w o g h.lt).trans h
theorem BB.far {w : World} {g : Nat} {l : List UInt8} (h : BB w g l) {p : Addr} (hp : g ≠ p.block) (u : Value) : BB (w.setCell p u) g l :=
  (Below.heap_setCell w p u g hp).trans h
end
section
set_option linter.unusedVariables false
set_option maxRecDepth 20000
set_option linter.unusedSimpArgs false
set_option linter.unusedSectionVars false

/-- a bucket: its entries and the next one of its run (-1: none) -/
abbrev Bkt (α : Type) := List α × Int
section
variable {α : Type}
/-- from n on the buckets p are a run -/
def Way (T : List (Bkt α)) : Int → List Nat → Prop
  | n, [] => n = -1
  | n, b :: p => n = (b : Int) ∧ ∃ x, T[b]? = some x ∧ Way T x.2 p
def nextOf (p : List Nat) (i : Nat) : Int := match p[i + 1]? with
  | some b => (b : Int)
  | none => -1
def chunk (r i : Nat) (l : List α) : List α := (l.drop (i * r)).take r
def needC (r n : Nat) : Nat := max 1 ((n + r - 1) / r)
structure Good (h r : Nat) (T : List (Bkt α)) (R : Nat → List Nat) (L : Nat → List α) : Prop where
  r0 : 0 < r
  hT : h ≤ T.length
  head : ∀ k, k < h → (R k)[0]? = some k
  size : ∀ k, k < h → (R k).length = needC r (L k).length
  cell : ∀ k, k < h → ∀ (i b : Nat), (R k)[i]? = some b → T[b]? = some (chunk r i (L k), nextOf (R k) i)
  one : ∀ k, k < h → ∀ k', k' < h → ∀ (i i' b : Nat), (R k)[i]? = some b → (R k')[i']? = some b → k = k' ∧ i = i'
  free : ∀ b, b < T.length → (∀ k, k < h → ∀ i : Nat, (R k)[i]? ≠ some b) → T[b]? = some ([], -1)
/-- the last bucket is a home or one of a run -/
def Tight (h : Nat) (T : List (Bkt α)) (R : Nat → List Nat) : Prop := T.length = h ∨ ∃ k, k < h ∧ ∃ i : Nat, (R k)[i]? = some (T.length - 1)
def ledB (T : List (Bkt α)) (i : Nat) : Bool := T.any fun b => b.2 == (i : Int)
theorem ledB_true {T : List (Bkt α)} {i : Nat} : ledB T i = true ↔ ∃ (b : Nat) (x : Bkt α), T[b]? = some x ∧ x.2 = (i : Int) := by
  unfold ledB
  rw [List.any_eq_true]
  constructor
  · rintro ⟨x, hx, h⟩
    obtain ⟨b, hb⟩ := List.mem_iff_getElem?.1 hx
    exact ⟨b, x, hb, by simpa using h⟩
  · rintro ⟨b, x, hb, h⟩
    exact ⟨x, List.mem_of_getElem? hb, by simpa using h⟩
/-- i is the first free number from h on -/
def IsFree (h : Nat) (T : List (Bkt α)) (i : Nat) : Prop := h ≤ i ∧ i ≤ T.length ∧ (∀ j, h ≤ j → j < i → ledB T j = true) ∧ (i < T.length → ledB T i = false)
theorem IsFree.uniq {h : Nat} {T : List (Bkt α)} {i j : Nat} (a : IsFree h T i) (b : IsFree h T j) : i = j := by
  obtain ⟨a1, a2, a3, a4⟩ := a
  obtain ⟨b1, b2, b3, b4⟩ := b
  rcases Nat.lt_trichotomy i j with hlt | he | hgt
  · have := b3 i a1 hlt
    rw [a4 (by omega)] at this; cases this
  · exact he
  · have := a3 j b1 hgt
    rw [b4 (by omega)] at this; cases this

/-! numbers -/
theorem need_pos (r n : Nat) : 1 ≤ needC r n := by unfold needC; omega
theorem need_lt {r n i : Nat} (hr : 0 < r) : i + 1 < needC r n ↔ (i + 1) * r < n := by
  unfold needC
  have h1 : (i + 2 ≤ (n + r - 1) / r) ↔ (i + 2) * r ≤ n + r - 1 := Nat.le_div_iff_mul_le hr
  rw [Nat.add_mul] at h1
  rw [Nat.add_mul]
  omega
theorem need_le {r n i : Nat} (hr : 0 < r) (hi : 0 < i) : i < needC r n ↔ i * r < n := by
  cases i with
  | zero => omega
  | succ i => exact need_lt hr
theorem chunk_len (r i : Nat) (l : List α) : (chunk r i l).length = min r (l.length - i * r) := by
  unfold chunk; simp
theorem chunk_none {r i : Nat} {l : List α} (hr : 0 < r) (h : needC r l.length ≤ i) : chunk r i l = [] := by
  have h0 := need_pos r l.length
  have : ¬ i * r < l.length := fun hh => by
    have := (need_le (n := l.length) hr (show 0 < i by omega)).2 hh
    omega
  unfold chunk
  rw [List.drop_of_length_le (by omega), List.take_nil]
theorem chunk_full {r i : Nat} {l : List α} (hr : 0 < r) (h : i + 1 < needC r l.length) : (chunk r i l).length = r := by
  have := (need_lt (n := l.length) hr).1 h
  rw [chunk_len]
  rw [Nat.add_mul] at this
  omega
theorem chunk_ne {r i : Nat} {l : List α} (hr : 0 < r) (h0 : 0 < i) (h : i < needC r l.length) : 0 < (chunk r i l).length := by
  have := (need_le (n := l.length) hr h0).1 h
  rw [chunk_len]
  omega
theorem chunk_app {r i : Nat} {l m : List α} (h : (i + 1) * r ≤ l.length) : chunk r i (l ++ m) = chunk r i l := by
  rw [Nat.add_mul] at h
  unfold chunk
  rw [List.drop_append_of_le_length (by omega), List.take_append_of_le_length (by rw [List.length_drop]; omega)]

/-! runs -/
theorem way_det {T : List (Bkt α)} : ∀ {n : Int} {p q : List Nat}, Way T n p → Way T n q → p = q
  | _, [], [], _, _ => rfl
  | _, [], c :: q, h, k => by
    have h1 : _ = (-1 : Int) := h
    have h2 := k.1
    omega
  | _, b :: p, [], h, k => by
    have h1 : _ = (-1 : Int) := k
    have h2 := h.1
    omega
  | _, b :: p, c :: q, h, k => by
    obtain ⟨h1, x, hx, hp⟩ := h
    obtain ⟨k1, y, hy, hq⟩ := k
    obtain rfl : b = c := by omega
    rw [hx] at hy
    obtain rfl := Option.some.inj hy
    rw [way_det hp hq]
theorem Good.way_from {h r : Nat} {T : List (Bkt α)} {R : Nat → List Nat} {L : Nat → List α} (G : Good h r T R L) {k : Nat} (hk : k < h) :
    ∀ (m i : Nat), (R k).length - i = m → i < (R k).length → Way T ((R k).getD i 0 : Nat) ((R k).drop i) := by
  intro m
  induction m with
  | zero => intro i h1 h2; omega
  | succ m ih =>
    intro i h1 h2
    have hb : (R k)[i]? = some ((R k).getD i 0) := by simp [List.getD_eq_getElem?_getD, h2]
    have hd : (R k).drop i = (R k).getD i 0 :: (R k).drop (i + 1) := by
      rw [List.drop_eq_getElem_cons h2]
      simp [List.getD_eq_getElem?_getD, h2]
    rw [hd]
    refine ⟨rfl, _, G.cell k hk i _ hb, ?_⟩
    show Way T (nextOf (R k) i) _
    unfold nextOf
    by_cases h3 : i + 1 < (R k).length
    · have hb2 : (R k)[i + 1]? = some ((R k).getD (i + 1) 0) := by simp [List.getD_eq_getElem?_getD, h3]
      rw [hb2]
      exact ih (i + 1) (by omega) h3
    · rw [List.getElem?_eq_none (by omega), List.drop_of_length_le (by omega)]
      rfl
theorem Good.len_pos {h r : Nat} {T : List (Bkt α)} {R : Nat → List Nat} {L : Nat → List α} (G : Good h r T R L) {k : Nat} (hk : k < h) : 0 < (R k).length := by
  rw [G.size k hk]; have := need_pos r (L k).length; omega
theorem Good.way {h r : Nat} {T : List (Bkt α)} {R : Nat → List Nat} {L : Nat → List α} (G : Good h r T R L) {k : Nat} (hk : k < h) : Way T (k : Int) (R k) := by
  have h0 := G.len_pos hk
  have := G.way_from hk _ 0 rfl h0
  rw [List.drop_zero] at this
  have hh := G.head k hk
  rw [List.getD_eq_getElem?_getD, hh] at this
  exact this
theorem Good.lt {h r : Nat} {T : List (Bkt α)} {R : Nat → List Nat} {L : Nat → List α} (G : Good h r T R L) {k i b : Nat} (hk : k < h) (hb : (R k)[i]? = some b) : b < T.length := by
  have := G.cell k hk i b hb
  exact (List.getElem?_eq_some_iff.1 this).1
/-- the entries of the buckets of a path -/
def entF (T : List (Bkt α)) (p : List Nat) : List α := p.flatMap fun b => (T.getD b ([], -1)).1
theorem chunks_take (r : Nat) (l : List α) : ∀ m, (List.range m).flatMap (fun i => chunk r i l) = l.take (m * r)
  | 0 => by simp
  | m + 1 => by
    rw [List.range_succ, List.flatMap_append, chunks_take r l m, Nat.add_mul, Nat.one_mul]
    simp only [List.flatMap_cons, List.flatMap_nil, List.append_nil]
    unfold chunk
    rw [List.take_add]
theorem need_all {r n : Nat} (hr : 0 < r) : n ≤ needC r n * r := by
  have h1 : ¬ (needC r n) < needC r n := by omega
  have h0 := need_pos r n
  rw [need_le hr (by omega)] at h1
  omega
theorem path_range {β : Type} (p : List Nat) (f : Nat → List β) (g : Nat → List β) (h : ∀ i b, p[i]? = some b → f b = g i) : p.flatMap f = (List.range p.length).flatMap g := by
  have e : p = (List.range p.length).map (fun i => p.getD i 0) := by
    refine List.ext_getElem? fun i => ?_
    by_cases hi : i < p.length
    · simp [hi, List.getD_eq_getElem?_getD]
    · rw [List.getElem?_eq_none (by omega), List.getElem?_eq_none (by simp; omega)]
  conv => lhs; rw [e]
  rw [List.flatMap_map]
  have : ∀ i ∈ List.range p.length, f (p.getD i 0) = g i := fun i hi => by
    have hi' : i < p.length := by simpa using hi
    exact h i _ (by simp [List.getD_eq_getElem?_getD, hi'])
  clear e h
  generalize List.range p.length = q at *
  induction q with
  | nil => rfl
  | cons a q ih =>
    rw [List.flatMap_cons, List.flatMap_cons, this a (by simp), ih (fun i hi => this i (by simp [hi]))]
theorem Good.ents {h r : Nat} {T : List (Bkt α)} {R : Nat → List Nat} {L : Nat → List α} (G : Good h r T R L) {k : Nat} (hk : k < h) : entF T (R k) = L k := by
  unfold entF
  rw [path_range (R k) _ (fun i => chunk r i (L k)) (fun i b hb => by simp [List.getD_eq_getElem?_getD, G.cell k hk i b hb]), chunks_take, G.size k hk]
  exact List.take_of_length_le (need_all G.r0)

/-- a table is told by its runs and their entries -/
theorem Good.uniq {h r : Nat} {T T' : List (Bkt α)} {R : Nat → List Nat} {L : Nat → List α} (G : Good h r T R L) (G' : Good h r T' R L) (hl : T.length = T'.length) : T = T' := by
  refine List.ext_getElem? fun b => ?_
  by_cases hb : b < T.length
  · by_cases hf : ∀ k, k < h → ∀ i : Nat, (R k)[i]? ≠ some b
    · rw [G.free b hb hf, G'.free b (by omega) hf]
    · obtain ⟨k, hk, i, hi⟩ : ∃ k, k < h ∧ ∃ i : Nat, (R k)[i]? = some b := by
        refine Classical.byContradiction fun hn => hf fun k hk i hi => hn ⟨k, hk, i, hi⟩
      rw [G.cell k hk i b hi, G'.cell k hk i b hi]
  · rw [List.getElem?_eq_none (by omega), List.getElem?_eq_none (by omega)]
/-- a free bucket more -/
theorem Good.grow {h r : Nat} {T : List (Bkt α)} {R : Nat → List Nat} {L : Nat → List α} (G : Good h r T R L) : Good h r (T ++ [([], -1)]) R L := by
  refine ⟨G.r0, by have := G.hT; simp; omega, G.head, G.size, fun k hk i b hb => ?_, G.one, fun b hb hf => ?_⟩
  · rw [List.getElem?_append_left (G.lt hk hb)]
    exact G.cell k hk i b hb
  · by_cases h1 : b < T.length
    · rw [List.getElem?_append_left h1]
      exact G.free b h1 hf
    · obtain rfl : b = T.length := by simp at hb; omega
      simp
def upd {β : Type} (f : Nat → β) (k : Nat) (v : β) : Nat → β := fun i => if i = k then v else f i
theorem upd_same {β : Type} (f : Nat → β) (k : Nat) (v : β) : upd f k v k = v := by simp [upd]
theorem upd_ne {β : Type} (f : Nat → β) {k i : Nat} (v : β) (h : i ≠ k) : upd f k v i = f i := by simp [upd, h]
/-- T' is T, but what lies on the path is l, laid anew -/
structure Laid (r : Nat) (path : List Nat) (l : List α) (T T' : List (Bkt α)) : Prop where
  len : T'.length = T.length
  on : ∀ (i b : Nat), path[i]? = some b → T'[b]? = some (chunk r i l, if i + 1 < needC r l.length then nextOf path i else -1)
  off : ∀ b : Nat, b ∉ path → T'[b]? = T[b]?
theorem Laid.uniq {r : Nat} {path : List Nat} {l : List α} {T T1 T2 : List (Bkt α)} (a : Laid r path l T T1) (b : Laid r path l T T2) : T1 = T2 := by
  refine List.ext_getElem? fun i => ?_
  by_cases hi : i ∈ path
  · obtain ⟨j, hj⟩ := List.mem_iff_getElem?.1 hi
    rw [a.on j i hj, b.on j i hj]
  · rw [a.off i hi, b.off i hi]
theorem nextOf_take {p : List Nat} {n i : Nat} (hi : i < n) (hn : n ≤ p.length) : nextOf (p.take n) i = if i + 1 < n then nextOf p i else -1 := by
  unfold nextOf
  rw [List.getElem?_take]
  by_cases h : i + 1 < n
  · rw [if_pos h, if_pos h]
  · rw [if_neg h, if_neg h]
/-- the table whose run of a home was laid anew -/
theorem Good.laid {h r : Nat} {T T' : List (Bkt α)} {R : Nat → List Nat} {L : Nat → List α} (G : Good h r T R L) {k : Nat} (hk : k < h) {path : List Nat} {l : List α}
    (hp : path = R k ∨ ∃ f, path = R k ++ [f] ∧ f < T.length ∧ ∀ k, k < h → ∀ i : Nat, (R k)[i]? ≠ some f) (hn : needC r l.length ≤ path.length) (H : Laid r path l T T') :
    Good h r T' (upd R k (path.take (needC r l.length))) (upd L k l) := by
  have hpos := need_pos r l.length
  have hnod : ∀ (i j b : Nat), path[i]? = some b → path[j]? = some b → i = j := by
    intro i j b hi hj
    rcases hp with rfl | ⟨f, rfl, hf, hff⟩
    · exact (G.one k hk k hk i j b hi hj).2
    · have hi1 := (List.getElem?_eq_some_iff.1 hi).1
      have hj1 := (List.getElem?_eq_some_iff.1 hj).1
      simp at hi1 hj1
      by_cases h1 : i < (R k).length
      · rw [List.getElem?_append_left h1] at hi
        by_cases h2 : j < (R k).length
        · rw [List.getElem?_append_left h2] at hj
          exact (G.one k hk k hk i j b hi hj).2
        · obtain rfl : j = (R k).length := by omega
          simp at hj
          subst hj
          exact absurd hi (hff k hk i)
      · obtain rfl : i = (R k).length := by omega
        simp at hi
        subst hi
        by_cases h2 : j < (R k).length
        · rw [List.getElem?_append_left h2] at hj
          exact absurd hj (hff k hk j)
        · omega
  have hsub : ∀ (i b : Nat), (R k)[i]? = some b → path[i]? = some b := by
    intro i b hi
    rcases hp with rfl | ⟨f, rfl, _, _⟩
    · exact hi
    · rw [List.getElem?_append_left (List.getElem?_eq_some_iff.1 hi).1]; exact hi
  have hoff : ∀ k', k' < h → k' ≠ k → ∀ (i b : Nat), (R k')[i]? = some b → b ∉ path := by
    intro k' hk' hne i b hi hm
    obtain ⟨j, hj⟩ := List.mem_iff_getElem?.1 hm
    rcases hp with rfl | ⟨f, rfl, _, hff⟩
    · exact hne (G.one k' hk' k hk i j b hi hj).1
    · have hj1 := (List.getElem?_eq_some_iff.1 hj).1
      simp at hj1
      by_cases h2 : j < (R k).length
      · rw [List.getElem?_append_left h2] at hj
        exact hne (G.one k' hk' k hk i j b hi hj).1
      · obtain rfl : j = (R k).length := by omega
        simp at hj
        subst hj
        exact hff k' hk' i hi
  have htk : ∀ (i b : Nat), (path.take (needC r l.length))[i]? = some b → i < needC r l.length ∧ path[i]? = some b := by
    intro i b hi
    rw [List.getElem?_take] at hi
    split at hi
    · exact ⟨by assumption, hi⟩
    · cases hi
  refine ⟨G.r0, by rw [H.len]; exact G.hT, fun k' hk' => ?_, fun k' hk' => ?_, fun k' hk' i b hb => ?_, fun k1 h1 k2 h2 i j b hi hj => ?_, fun b hb hf => ?_⟩
  · by_cases e : k' = k
    · subst e
      rw [upd_same, List.getElem?_take, if_pos (by omega)]
      exact hsub 0 _ (G.head _ hk)
    · rw [upd_ne _ _ e]; exact G.head k' hk'
  · by_cases e : k' = k
    · subst e
      rw [upd_same, upd_same, List.length_take]
      omega
    · rw [upd_ne _ _ e, upd_ne _ _ e]; exact G.size k' hk'
  · by_cases e : k' = k
    · subst e
      rw [upd_same] at hb ⊢
      rw [upd_same]
      obtain ⟨h1, h2⟩ := htk i b hb
      rw [H.on i b h2, nextOf_take h1 hn]
    · rw [upd_ne _ _ e] at hb ⊢
      rw [upd_ne _ _ e, H.off b (hoff k' hk' e i b hb)]
      exact G.cell k' hk' i b hb
  · by_cases e1 : k1 = k
    · subst e1
      rw [upd_same] at hi
      obtain ⟨_, h3⟩ := htk i b hi
      by_cases e2 : k2 = k1
      · subst e2
        rw [upd_same] at hj
        exact ⟨rfl, hnod i j b h3 (htk j b hj).2⟩
      · rw [upd_ne _ _ e2] at hj
        exact absurd (List.mem_iff_getElem?.2 ⟨i, h3⟩) (hoff k2 h2 e2 j b hj)
    · rw [upd_ne _ _ e1] at hi
      by_cases e2 : k2 = k
      · subst e2
        rw [upd_same] at hj
        exact absurd (List.mem_iff_getElem?.2 ⟨j, (htk j b hj).2⟩) (hoff k1 h1 e1 i b hi)
      · rw [upd_ne _ _ e2] at hj
        exact G.one k1 h1 k2 h2 i j b hi hj
  · by_cases hm : b ∈ path
    · obtain ⟨i, hi⟩ := List.mem_iff_getElem?.1 hm
      have hge : needC r l.length ≤ i := by
        refine Classical.byContradiction fun hn2 => hf k hk i ?_
        rw [upd_same, List.getElem?_take, if_pos (by omega)]
        exact hi
      rw [H.on i b hi, chunk_none G.r0 hge, if_neg (by omega)]
    · rw [H.off b hm]
      refine G.free b (by rw [← H.len]; exact hb) fun k' hk' i hi => ?_
      by_cases e : k' = k
      · subst e
        exact hm (List.mem_iff_getElem?.2 ⟨i, hsub i b hi⟩)
      · exact hf k' hk' i (by rw [upd_ne _ _ e]; exact hi)

/-! what leads to a bucket -/
theorem Good.home_lt {h r : Nat} {T : List (Bkt α)} {R : Nat → List Nat} {L : Nat → List α} (G : Good h r T R L) {k i b : Nat} (hk : k < h) (hb : (R k)[i]? = some b) (hbh : h ≤ b) : 0 < i := by
  cases i with
  | zero =>
    rw [G.head k hk] at hb
    have := Option.some.inj hb
    omega
  | succ i => omega
theorem Good.led {h r : Nat} {T : List (Bkt α)} {R : Nat → List Nat} {L : Nat → List α} (G : Good h r T R L) {b : Nat} (hbh : h ≤ b) : ledB T b = true ↔ ∃ k, k < h ∧ ∃ i : Nat, (R k)[i]? = some b := by
  rw [ledB_true]
  constructor
  · rintro ⟨c, x, hc, hx⟩
    by_cases hf : ∀ k, k < h → ∀ i : Nat, (R k)[i]? ≠ some c
    · rw [G.free c (List.getElem?_eq_some_iff.1 hc).1 hf] at hc
      obtain rfl := Option.some.inj hc
      have hx' : (-1 : Int) = b := hx
      omega
    · obtain ⟨k, hk, i, hi⟩ : ∃ k, k < h ∧ ∃ i : Nat, (R k)[i]? = some c := by
        refine Classical.byContradiction fun hn => hf fun k hk i hi => hn ⟨k, hk, i, hi⟩
      rw [G.cell k hk i c hi] at hc
      obtain rfl := Option.some.inj hc
      refine ⟨k, hk, i + 1, ?_⟩
      have hx' : nextOf (R k) i = (b : Int) := hx
      unfold nextOf at hx'
      split at hx'
      · rename_i b' hb'
        rw [hb']
        congr 1
        omega
      · omega
  · rintro ⟨k, hk, i, hi⟩
    have h0 := G.home_lt hk hi hbh
    obtain ⟨j, rfl⟩ : ∃ j, i = j + 1 := ⟨i - 1, by omega⟩
    have hj : j < (R k).length := by have := (List.getElem?_eq_some_iff.1 hi).1; omega
    refine ⟨(R k).getD j 0, _, G.cell k hk j _ (by simp [List.getD_eq_getElem?_getD, hj]), ?_⟩
    show nextOf (R k) j = b
    unfold nextOf
    rw [hi]
theorem Good.isFree_no {h r : Nat} {T : List (Bkt α)} {R : Nat → List Nat} {L : Nat → List α} (G : Good h r T R L) {f : Nat} (H : IsFree h T f) : ∀ k, k < h → ∀ i : Nat, (R k)[i]? ≠ some f := by
  intro k hk i hi
  have := G.lt hk hi
  have h2 := H.2.2.2 this
  rw [(G.led H.1).2 ⟨k, hk, i, hi⟩] at h2
  cases h2

/-! trimming -/
def trimE (h : Nat) : Nat → List (Bkt α) → List (Bkt α)
  | 0, T => T
  | n + 1, T => if h < T.length ∧ (T.getD (T.length - 1) ([], -1)).1 = [] then trimE h n (T.take (T.length - 1)) else T
def trimL (h : Nat) : Nat → List (Bkt α) → List (Bkt α)
  | 0, T => T
  | n + 1, T => if h < T.length ∧ ledB T (T.length - 1) = false then trimL h n (T.take (T.length - 1)) else T
theorem Good.drop_last {h r : Nat} {T : List (Bkt α)} {R : Nat → List Nat} {L : Nat → List α} (G : Good h r T R L) (hl : h < T.length) (hf : ∀ k, k < h → ∀ i : Nat, (R k)[i]? ≠ some (T.length - 1)) : Good h r (T.take (T.length - 1)) R L := by
  have hlen : (T.take (T.length - 1)).length = T.length - 1 := by rw [List.length_take]; omega
  refine ⟨G.r0, by omega, G.head, G.size, fun k hk i b hb => ?_, G.one, fun b hb hf2 => ?_⟩
  · have h1 := G.lt hk hb
    have h2 : b ≠ T.length - 1 := fun e => hf k hk i (by rw [← e]; exact hb)
    rw [List.getElem?_take, if_pos (by omega)]
    exact G.cell k hk i b hb
  · rw [List.getElem?_take, if_pos (by omega)]
    exact G.free b (by omega) hf2
theorem Good.last_in {h r : Nat} {T : List (Bkt α)} {R : Nat → List Nat} {L : Nat → List α} (G : Good h r T R L) {k i : Nat} (hk : k < h) (hl : h < T.length) (hi : (R k)[i]? = some (T.length - 1)) :
    (T.getD (T.length - 1) ([], -1)).1 ≠ [] ∧ ledB T (T.length - 1) = true := by
  refine ⟨fun e => ?_, (G.led (by omega)).2 ⟨k, hk, i, hi⟩⟩
  have h0 := G.home_lt hk hi (by omega)
  have h1 := (List.getElem?_eq_some_iff.1 hi).1
  rw [G.size k hk] at h1
  have h2 := chunk_ne G.r0 h0 h1
  rw [List.getD_eq_getElem?_getD, G.cell k hk i _ hi] at e
  simp at e
  rw [e] at h2
  simp at h2
theorem Good.last_out {h r : Nat} {T : List (Bkt α)} {R : Nat → List Nat} {L : Nat → List α} (G : Good h r T R L) (hl : h < T.length) (hf : ∀ k, k < h → ∀ i : Nat, (R k)[i]? ≠ some (T.length - 1)) :
    (T.getD (T.length - 1) ([], -1)).1 = [] ∧ ledB T (T.length - 1) = false := by
  refine ⟨by rw [List.getD_eq_getElem?_getD, G.free _ (by omega) hf]; rfl, ?_⟩
  cases hb : ledB T (T.length - 1) with
  | false => rfl
  | true =>
    obtain ⟨k, hk, i, hi⟩ := (G.led (by omega)).1 hb
    exact absurd hi (hf k hk i)
theorem Good.trims {h r : Nat} {R : Nat → List Nat} {L : Nat → List α} : ∀ (n : Nat) (T : List (Bkt α)), T.length ≤ h + n → Good h r T R L → trimE h n T = trimL h n T ∧ Good h r (trimE h n T) R L ∧ Tight h (trimE h n T) R
  | 0, T, hn, G => ⟨rfl, G, .inl (by have := G.hT; show T.length = h; omega)⟩
  | n + 1, T, hn, G => by
    unfold trimE trimL
    by_cases hl : h < T.length
    · by_cases hf : ∀ k, k < h → ∀ i : Nat, (R k)[i]? ≠ some (T.length - 1)
      · obtain ⟨h1, h2⟩ := G.last_out hl hf
        rw [if_pos ⟨hl, h1⟩, if_pos ⟨hl, h2⟩]
        exact Good.trims n _ (by rw [List.length_take]; omega) (G.drop_last hl hf)
      · obtain ⟨k, hk, i, hi⟩ : ∃ k, k < h ∧ ∃ i : Nat, (R k)[i]? = some (T.length - 1) := by
          refine Classical.byContradiction fun hn => hf fun k hk i hi => hn ⟨k, hk, i, hi⟩
        obtain ⟨h1, h2⟩ := G.last_in hk hl hi
        rw [if_neg (fun e => h1 e.2), if_neg (fun e => by rw [h2] at e; cases e.2)]
        exact ⟨rfl, G, .inr ⟨k, hk, i, hi⟩⟩
    · rw [if_neg (fun e => hl e.1), if_neg (fun e => hl e.1)]
      exact ⟨rfl, G, .inl (by have := G.hT; omega)⟩
theorem Tight.stays {h r : Nat} {T : List (Bkt α)} {R : Nat → List Nat} {L : Nat → List α} (G : Good h r T R L) (t : Tight h T R) (n : Nat) : trimL h n T = T := by
  cases n with
  | zero => rfl
  | succ n =>
    unfold trimL
    by_cases hl : h < T.length
    · rcases t with e | ⟨k, hk, i, hi⟩
      · omega
      · rw [if_neg (fun e => by rw [(G.last_in hk hl hi).2] at e; cases e.2)]
    · rw [if_neg (fun e => hl e.1)]
end
end
end Go.Proofs.YtcbinafokhekmaaDoor
