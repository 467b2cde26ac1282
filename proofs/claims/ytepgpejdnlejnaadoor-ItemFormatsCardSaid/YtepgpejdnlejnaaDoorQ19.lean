/- GenI; TxS; ItZA; TxW; ItZB (merged by group.py) -/
import Derived.Test.YtepgpejdnlejnaaDoorQ10
import Derived.Test.YtepgpejdnlejnaaDoorQ00
import Derived.Lib.AppendZeros
import Derived.Lib.SliceRun
import Derived.Laws.OwnMore
import Derived.Test.YtepgpejdnlejnaaDoorQ02
import Derived.Test.YtepgpejdnlejnaaDoorQ03
import Derived.Test.YtepgpejdnlejnaaDoorQ18
import Derived.Test.YtepgpejdnlejnaaDoorQ08
import Derived.Test.YtepgpejdnlejnaaDoorQ07
import Derived.Test.YtepgpejdnlejnaaDoorQ04
import Derived.Test.YtepgpejdnlejnaaDoorShelfC
import Derived.Shelf.LaysM
import Derived.Lib.AtoiErrMem
import Derived.Shelf.Strings.SplitShaped
import Derived.Test.YtepgpejdnlejnaaDoorQ13
import Derived.Lib.ItoaLen
namespace Go.Proofs.YtepgpejdnlejnaaDoor
section
open Go.RowKit
set_option linter.unusedVariables false
set_option linter.unusedSimpArgs false
set_option linter.unusedSectionVars false
set_option maxRecDepth 20000

section
variable {α : Type} {cs : α → List Value} {t e : TypeId} {k bytes : Nat} {w : World} {base : Nat}
end
section
variable {α : Type} {cs : α → List Value} {t e : TypeId} {k bytes : Nat} {w : World} {base : Nat} {ops : Array Oper} {rest : List Oper} {o : Oper} {a : Act} {Q : Exit → Act → World → Prop}
end
theorem SlG.ge0 {α : Type} {cs : α → List Value} {w : World} {P : Option Addr} {cap : Nat} {l : List α} (h : SlG cs w P cap l) (hl : 0 < l.length) (hk : ∀ x, 0 < (cs x).length) : P = none → False := by
  intro e
  obtain ⟨b, off, e2, _⟩ := h.at_ 0 _ (List.getElem?_eq_getElem hl)
  rw [e] at e2; cases e2
/-- numbers -/
abbrev SlI := @SlG Int (fun x => [.int .i64 x])
theorem SlG.intAt {w : World} {P : Option Addr} {cap : Nat} {l : List Int} (h : SlI w P cap l) (i : Nat) (hi : i < l.length) :
    ∃ b off, P = some ⟨b, off, none⟩ ∧ w.cell? ⟨b, off + i, none⟩ = some (.int .i64 (l.getD i 0)) := by
  obtain ⟨b, off, e, h1⟩ := h.at_ i (l.getD i 0) (by simp [List.getD_eq_getElem?_getD, hi])
  exact ⟨b, off, e, by have := h1 0 _ rfl; simpa using this⟩
theorem elemI : ElemG (fun x : Int => [.int .i64 x]) 96 3 1 8 where
  ht := Tryd.underlying96
  info := by
    have h : (Tryd.prog.info? 3).map (fun i => (i.zero, i.size, i.bytes)) = some (some (.int .i64 0), 1, 8) := by kernel_rfl
    cases hq : Tryd.prog.info? 3 with
    | none => simp [hq] at h
    | some i => simp [hq] at h; exact ⟨i, _, rfl, h.1, h.2.1, h.2.2, rfl⟩
  k0 := by omega
  hk := fun _ => rfl
  one := fun x u hu => by
    simp at hu
    subst hu; rfl
theorem OwnG.cell1 {α : Type} {cs : α → List Value} {e : TypeId} (hk : ∀ x, (cs x).length = 1) {w : World} {base g n cap : Nat} {l : List α} (h : OwnG cs e 1 w base (.slice (some ⟨g, 0, none⟩) n cap) l) (hn : n = l.length) (i : Nat) (x : α) (u : Value) (hi : l[i]? = some x) (hu : cs x = [u]) : w.cell? ⟨g, i, none⟩ = some u := by
  have := h.cell hk hn i x hi 0 u (by rw [hu]; rfl)
  simpa using this
theorem OwnG.set1 {α : Type} {cs : α → List Value} {e : TypeId} (hk : ∀ x, (cs x).length = 1) {w : World} {base g n cap : Nat} {l : List α} (h : OwnG cs e 1 w base (.slice (some ⟨g, 0, none⟩) n cap) l) (hn : n = l.length) (i : Nat) (x y : α) (u : Value) (hi : l[i]? = some x) (hy : cs y = [u]) :
    OwnG cs e 1 (w.setCell ⟨g, i, none⟩ u) base (.slice (some ⟨g, 0, none⟩) n cap) (l.set i y) := by
  have := h.setCell hk hn i 0 x y u hi (by
    have := hk x
    cases hx : cs x with
    | nil => rw [hx] at this; simp at this
    | cons a b =>
      rw [hx] at this
      cases b with
      | nil => rw [hy]; rfl
      | cons c d => simp at this) (by omega)
  simpa using this
theorem int_zero : ∃ i, Tryd.prog.info? 3 = some i ∧ i.zero = some (.int .i64 0) ∧ i.size = 1 ∧ i.bytes = 8 := by
  have h : (Tryd.prog.info? 3).map (fun i => (i.zero, i.size, i.bytes)) = some (some (.int .i64 0), 1, 8) := by kernel_rfl
  cases hq : Tryd.prog.info? 3 with
  | none => simp [hq] at h
  | some i => simp [hq] at h; exact ⟨i, rfl, h.1, h.2.1, h.2.2⟩
/-- make([]T, n) for elements of one cell -/
theorem wpList_make_G {α : Type} {cs : α → List Value} {t e : TypeId} {bytes : Nat} {w : World} {ops : Array Oper} {rest : List Oper} {o : Oper} {a : Act} {Q : Exit → Act → World → Prop} (z0 : α) {z : Value} (ht : Tryd.prog.underlying t = some (.slice e)) (hi : ∃ i, Tryd.prog.info? e = some i ∧ i.zero = some z ∧ i.size = 1 ∧ i.bytes = bytes) (hz0 : cs z0 = [z]) (hzc : z.cells = #[z])
    (hgd : o.guard = none) (lo co : Operand) (ho : o.op = .makeSlice t lo co) (n : Nat) (hl : a.eval lo = .int .i64 n) (hc : a.eval co = .int .i64 n) (hb : bytes * n ≤ 281474976710656) (hm : n ≤ 9223372036854775807)
    (h : ∀ w', OwnG cs e 1 w' w.heap.size (.slice (some ⟨w.heap.size, 0, none⟩) n n) (List.replicate n z0) → Ext w w' → wpList Tryd.prog ops Q rest (a.put o.dst (.slice (some ⟨w.heap.size, 0, none⟩) n n)) w') : wpList Tryd.prog ops Q (o :: rest) a w := by
  obtain ⟨i, h1, h2, h3, h4⟩ := hi
  obtain ⟨w', hr, ho', hg⟩ := run_make_full w w.heap.size t e i z 1 ht h1 h2 h3 .i64 .i64 n (by rw [h4]; exact hb) (by unfold maxLen; omega) (Nat.le_refl _)
  refine wpList_plain hgd fun K hK => ?_
  unfold Oper.wp
  simp only [execOp, ho, hl, hc, Sem.run_bind, hr, Result.andThen_ok, Sem.run_pure]
  rw [Oper.upon_value]
  refine hK _ _ (h w' ?_ (Below.grown (Below.refl _ _) hg (Nat.le_refl _) (fun k hk => by cases hk)))
  unfold OwnG
  rw [List.length_replicate, show (List.replicate n z0).flatMap cs = (madeCells z.cells (n * 1)).toList from by
    rw [hzc, Nat.mul_one, toList_madeCells_one]
    clear h hr ho' hm hb hl hc
    induction n with
    | zero => rfl
    | succ n ih => rw [List.replicate_succ, List.flatMap_cons, ih, hz0, List.replicate_succ]; rfl]
  exact ho'
abbrev OwnI (w : World) (base : Nat) (v : Value) (l : List Int) : Prop := OwnG (fun x : Int => [.int .i64 x]) 3 1 w base v l
end
section
open Go.RowKit
set_option linter.unusedVariables false
set_option linter.unusedSimpArgs false
set_option linter.unusedSectionVars false
set_option maxRecDepth 20000
abbrev csS (x : ByteArray) : List Value := [.string x]
theorem elemS : ElemG csS 41 9 1 16 where
  ht := Tryd.underlying41
  info := by
    have h : (Tryd.prog.info? 9).map (fun i => (i.zero, i.size, i.bytes)) = some (some (.string ⟨#[]⟩), 1, 16) := by kernel_rfl
    cases hq : Tryd.prog.info? 9 with
    | none => simp [hq] at h
    | some i => simp [hq] at h; exact ⟨i, _, rfl, h.1, h.2.1, h.2.2, rfl⟩
  k0 := by omega
  hk := fun _ => rfl
  one := fun x u hu => by
    simp at hu
    subst hu; rfl
abbrev OwnS (w : World) (base : Nat) (v : Value) (l : List ByteArray) : Prop := OwnG csS 9 1 w base v l
def mkB (l : List UInt8) : ByteArray := ⟨l.toArray⟩
theorem mkB_toList (l : List UInt8) : (mkB l).data.toList = l := rfl
theorem mkB_of (s : ByteArray) : mkB s.data.toList = s := rfl
theorem mkB_size (l : List UInt8) : (mkB l).size = l.length := by show l.toArray.size = _; simp
theorem mkB_inj {a b : List UInt8} (h : mkB a = mkB b) : a = b := by have := congrArg (fun x : ByteArray => x.data.toList) h; exact this
/-- a text cut at each byte c -/
def cutB (c : UInt8) (s : ByteArray) : List ByteArray := (cutC c s.data.toList).map mkB
theorem cutB_size (c : UInt8) (s : ByteArray) : (cutB c s).length ≤ s.size + 1 := by
  unfold cutB
  rw [List.length_map]
  have := cutC_len c s.data.toList
  have h : s.data.toList.length = s.size := by simp
  omega
theorem cutB_pos (c : UInt8) (s : ByteArray) : 1 ≤ (cutB c s).length := by
  unfold cutB
  rw [List.length_map]
  cases h : cutC c s.data.toList with
  | nil => exact absurd h (cutC_ne _ _)
  | cons a l => simp
theorem splitB_cut (c : UInt8) (s : ByteArray) : Lib.splitB ⟨#[c]⟩ 0 (Lib.countB s ⟨#[c]⟩) s = cutB c s := by
  have h1 := Lib.splitB_data ⟨#[c]⟩ 0 (Lib.countB s ⟨#[c]⟩) s
  have h2 := split_cut c s.data.toList.length s.data.toList (Nat.le_refl _)
  have h3 : (Lib.splitB ⟨#[c]⟩ 0 (Lib.countB s ⟨#[c]⟩) s).map (·.data.toList) = cutC c s.data.toList := h1.trans h2
  unfold cutB
  rw [← h3, List.map_map]
  symm
  exact List.map_id'' (fun x => rfl) _
theorem countB_cut (c : UInt8) (s : ByteArray) : Lib.countB s ⟨#[c]⟩ + 1 = (cutB c s).length := by
  unfold cutB
  rw [List.length_map]
  exact count_cut c s.data.toList
theorem extract_mk (s : ByteArray) (a b : Nat) : s.extract a b = mkB ((s.data.toList.take b).drop a) := by
  apply ByteArray.ext
  rw [ByteArray.data_extract]
  apply Array.ext'
  show _ = (s.data.toList.take b).drop a
  rw [Array.toList_extract, List.extract_eq_take_drop, List.drop_take]
theorem str_mid (s : ByteArray) (a b : Nat) (h1 : a ≤ b) (h2 : b ≤ s.size) (w : World) : (Instr.slice 9 (.string s) (some (.int .i64 (a : Int))) (some (.int .i64 (b : Int))) none).run Tryd.prog w = .ok (.string (mkB ((s.data.toList.take b).drop a))) w := by
  rw [run_slice_string (P := Tryd.prog) w 9 s .i64 .i64 (a : Int) (b : Int) Tryd.underlying9 (by omega) (by omega) (by omega)]
  rw [show ((a : Int)).toNat = a from rfl, show ((b : Int)).toNat = b from rfl, extract_mk]
theorem str_from (s : ByteArray) (a : Nat) (h2 : a ≤ s.size) (w : World) : (Instr.slice 9 (.string s) (some (.int .i64 (a : Int))) none none).run Tryd.prog w = .ok (.string (mkB (s.data.toList.drop a))) w := by
  rw [run_slice_string_l (P := Tryd.prog) w 9 s Tryd.underlying9 .i64 (a : Int) (by omega) (by omega)]
  rw [show ((a : Int)).toNat = a from rfl, extract_mk, List.take_of_length_le (by simp)]
theorem str_to (s : ByteArray) (b : Nat) (h2 : b ≤ s.size) (w : World) : (Instr.slice 9 (.string s) none (some (.int .i64 (b : Int))) none).run Tryd.prog w = .ok (.string (mkB (s.data.toList.take b))) w := by
  rw [run_slice_string_h (P := Tryd.prog) w 9 s Tryd.underlying9 .i64 (b : Int) (by omega) (by omega)]
  rw [show ((b : Int)).toNat = b from rfl, extract_mk, List.drop_zero]
theorem one_ne {a c : UInt8} (h : a ≠ c) : ((⟨#[a]⟩ : ByteArray).toList == (⟨#[c]⟩ : ByteArray).toList) = false := by
  rw [Lib.toList_data, Lib.toList_data]
  simpa using h
end
section
open Go.RowKit
set_option linter.unusedVariables false
set_option linter.unusedSimpArgs false
set_option linter.unusedSectionVars false
set_option maxRecDepth 100000
attribute [local go_sem] Oper.semAt_some

def hstep (h : Int) (c : UInt8) : Int := IntKind.u64.wrap (bits .xor .u64 h (c.toNat : Int) * 1099511628211)
def hashN (s : ByteArray) : Nat → Int
  | 0 => 14695981039346656037
  | n + 1 => hstep (hashN s n) (byteU s n)
def hashF (s : ByteArray) : Int := hashN s s.size
theorem hash_any (s : ByteArray) (w : World) (hs : s.size ≤ 140737488355328) :
    Calls Tryd.prog 50 #[.string s] w fun e w' => e = .returned (.int .u64 (hashF s)) ∧ w = w' := by
  go_enter Tryd.func50, Tryd.ntmps50
  go_wp2
  go_loopw [7, 3, 4] (fun i v _ wr => ∃ k : Nat, k ≤ s.size ∧ i = .int .i64 k ∧ v = .int .u64 (hashN s k) ∧ w = wr) (fun i _ _ _ => s.size - (intOf i).toNat)
  case atStart => exact ⟨0, by omega, rfl, rfl, rfl⟩
  case round =>
    obtain ⟨k, hk, rfl, rfl, rfl⟩ := hrel
    by_cases hlt : k < s.size
    · have c1 : (k : Int) < s.size := by omega
      have d1 : IntKind.i64.wrap ((k : Int) + 1) = (k : Int) + 1 := IntWalk.i64_in _ ⟨by omega, by omega⟩
      have hi := fun W => str_index s k hlt W
      rw [byteU_Nall] at hi
      have HS := Lib.hid (show hashN s (k + 1) = hstep (hashN s k) (byteU s k) from rfl)
      unfold hstep at HS
      have hc := (byteU s k).toNat_lt
      have d2 : IntKind.u64.wrap ((byteU s k).toNat : Int) = ((byteU s k).toNat : Int) := by simp [IntKind.wrap, IntKind.bits, IntKind.signed]; omega
      generalize byteU s k = u at *
      generalize hashN s k = h at *
      go_wp2
      go_roundw
      case rel => exact ⟨k + 1, by omega, by go_num, by rw [HS.out], by first | trivial | rfl⟩
      case measure => simp [intOf]; omega
    · obtain rfl : k = s.size := by omega
      go_wp2
      go_ret
      exact ⟨rfl, rfl⟩
theorem rhash_any (s : ByteArray) (w : World) (hs : s.size ≤ 140737488355328) :
    Calls Tryd.prog 51 #[.string s] w fun e w' => e = .returned (.int .u64 (hashF s)) ∧ w = w' := by
  go_enter Tryd.func51, Tryd.ntmps51
  go_wp2
  go_loopw [4, 3] (fun i v wr => ∃ k : Nat, k ≤ s.size ∧ i = .int .i64 k ∧ v = .int .u64 (hashN s k) ∧ w = wr) (fun i _ _ => s.size - (intOf i).toNat)
  case atStart => exact ⟨0, by omega, rfl, rfl, rfl⟩
  case round =>
    obtain ⟨k, hk, rfl, rfl, rfl⟩ := hrel
    by_cases hlt : k < s.size
    · have c1 : (k : Int) < s.size := by omega
      have d1 : IntKind.i64.wrap ((k : Int) + 1) = (k : Int) + 1 := IntWalk.i64_in _ ⟨by omega, by omega⟩
      have hi := fun W => str_index s k hlt W
      rw [byteU_Nall] at hi
      have HS := Lib.hid (show hashN s (k + 1) = hstep (hashN s k) (byteU s k) from rfl)
      unfold hstep at HS
      have hc := (byteU s k).toNat_lt
      have d2 : IntKind.u64.wrap ((byteU s k).toNat : Int) = ((byteU s k).toNat : Int) := by simp [IntKind.wrap, IntKind.bits, IntKind.signed]; omega
      generalize byteU s k = u at *
      generalize hashN s k = h at *
      go_wp2
      go_roundw
      case rel => exact ⟨k + 1, by omega, by go_num, by rw [HS.out], by first | trivial | rfl⟩
      case measure => simp [intOf]; omega
    · obtain rfl : k = s.size := by omega
      go_wp2
      go_ret
      exact ⟨rfl, rfl⟩
def toI (x : It) : ItP := (x.1.data.toList, x.2.1, x.2.2.1, x.2.2.2.1, x.2.2.2.2)
def ofI (y : ItP) : It := (⟨y.1.toArray⟩, y.2.1, y.2.2.1, y.2.2.2.1, y.2.2.2.2)
theorem ofI_toI (x : It) : ofI (toI x) = x := rfl
theorem toI_ofI (y : ItP) : toI (ofI y) = y := by simp [toI, ofI]
def itemsP (l : List ItP) : Bool := itemsB (l.map ofI)
theorem itemsP_map (l : List It) : itemsP (l.map toI) = itemsB l := by
  unfold itemsP
  rw [List.map_map, show ofI ∘ toI = id from rfl, List.map_id]
theorem toI_inj {l m : List It} (h : l.map toI = m.map toI) : l = m := by
  have := congrArg (List.map ofI) h
  rw [List.map_map, List.map_map, show ofI ∘ toI = id from rfl, List.map_id, List.map_id] at this
  exact this
theorem bytes_get' (s : ByteArray) (i : Nat) (h : i < s.size) : s.data.toList[i]? = some (byteU s i) := by
  have h' : i < s.data.toList.length := by simpa using h
  unfold byteU
  rw [List.getD_eq_getElem?_getD, List.getElem?_eq_getElem h']
  rfl
theorem name_no {s : ByteArray} (h : nameF s = true) (c : UInt8) (hc : innerB (c.toNat : Int) = false) : c ∉ s.data.toList := by
  intro hm
  obtain ⟨i, hi⟩ := List.mem_iff_getElem?.1 hm
  have hlt : i < s.size := by
    have := (List.getElem?_eq_some_iff.1 hi).1
    simpa using this
  have h3 := (nameF_iff.1 h).2.2 i hlt
  rw [bytes_get' s i hlt] at hi
  injection hi with hi
  rw [byteU_Nall, hi, hc] at h3
  cases h3
theorem itemB_ok {x : It} (h : itemB x = true) : ItOkP (toI x) := by
  unfold itemB at h
  rw [Bool.and_eq_true] at h
  obtain ⟨h1, h2⟩ := h
  refine ⟨name_no h1 32 (by decide), name_no h1 59 (by decide), ?_⟩
  by_cases hk : x.2.1 = 1
  · rw [if_pos hk] at h2
    have h2 := of_decide_eq_true h2
    exact .inl ⟨hk, h2.2.2.2, by show -1000000000 ≤ x.2.2.1; omega, by show x.2.2.1 ≤ 1000000000; omega, by show -1000000000 ≤ x.2.2.2.1; omega, by show x.2.2.2.1 ≤ 1000000000; omega⟩
  · rw [if_neg hk] at h2
    have h2 := of_decide_eq_true h2
    exact .inr ⟨h2.1, h2.2.2.2.1, h2.2.2.2.2, h2.2.1, h2.2.2.1⟩
theorem itemsP_ok (l : List ItP) (h : itemsP l = true) : l ≠ [] ∧ ∀ x ∈ l, ItOkP x := by
  unfold itemsP itemsB at h
  rw [Bool.and_eq_true] at h
  obtain ⟨h0, h1⟩ := h
  have h0 := of_decide_eq_true h0
  refine ⟨fun e => by rw [e] at h0; simp at h0, fun y hy => ?_⟩
  have hall : ∀ i, i < (l.map ofI).length → goodT (l.map ofI) i := by
    unfold knownB at h1
    rw [Bool.and_eq_true] at h1
    have := h1.1
    simpa using this
  obtain ⟨i, hi⟩ := List.mem_iff_getElem?.1 hy
  have hlt := (List.getElem?_eq_some_iff.1 hi).1
  have hg := (hall i (by rw [List.length_map]; exact hlt)).1
  have e : nthT (l.map ofI) i = ofI y := by
    unfold nthT
    rw [List.getD_eq_getElem?_getD, List.getElem?_map, hi]
    rfl
  rw [e] at hg
  have := itemB_ok hg
  rw [toI_ofI] at this
  exact this
end
section
open Go.RowKit
set_option linter.unusedVariables false
set_option linter.unusedSimpArgs false
set_option linter.unusedSectionVars false
set_option maxRecDepth 100000
attribute [local go_sem] Oper.semAt_some

theorem var_ext {w w' : World} {n : String} {v : Array Value} (h : w.var? Tryd.prog n = some v) (hx : Ext w w') : w'.var? Tryd.prog n = some v := by
  unfold World.var? at *
  cases hg : Tryd.prog.globalNamed n with
  | none => rw [hg] at h; cases h
  | some g =>
    rw [hg] at h
    simp only [Option.bind_some] at h ⊢
    cases hh : w.heap[g]? with
    | none => rw [hh] at h; cases h
    | some o => rw [hx.heap hh]; rw [hh] at h; exact h
/-- what is read of the library's variables -/
structure LibW (w : World) : Prop where
  tab : Lib.TabIs Tryd.prog w "internal/strconv.uint64pow10" .u64 Lib.pow10Tab
  syn : ∃ tp p, w.var? Tryd.prog "strconv.ErrSyntax" = some #[.iface tp p]
  rng : ∃ tp p, w.var? Tryd.prog "strconv.ErrRange" = some #[.iface tp p]
  len : ∃ m, w.cell? ⟨2, 0, none⟩ = some (.int .i64 m)
theorem LibW.ext {w w' : World} (h : LibW w) (hx : Ext w w') : LibW w' := by
  refine ⟨?_, ?_, ?_, ?_⟩
  · have := h.tab
    unfold Lib.TabIs at *
    exact var_ext this hx
  · obtain ⟨tp, p, h1⟩ := h.syn
    exact ⟨tp, p, var_ext h1 hx⟩
  · obtain ⟨tp, p, h1⟩ := h.rng
    exact ⟨tp, p, var_ext h1 hx⟩
  · obtain ⟨m, h1⟩ := h.len
    exact ⟨m, hx.cell h1⟩
theorem itoa_any (n : Int) (h0 : -9223372036854775808 ≤ n) (h1 : n ≤ 9223372036854775807) (w : World) (hL : LibW w) :
    Calls Tryd.prog 82 #[.int .i64 n] w fun e w' => e = .returned (.string (mkB (Lib.itoa n))) ∧ Ext w w' := by
  refine (Tryd.strconv_Itoa n h0 h1 w hL.tab).mono ?_
  rintro e w' ⟨rfl, k, os, rfl⟩
  exact ⟨rfl, grow_ext w k os⟩
theorem atoi_any (s : ByteArray) (hs : s.size ≤ 281474976710656) (w : World) (hL : LibW w) :
    Calls Tryd.prog 86 #[.string s] w fun e w' => ∃ ev, e = .returned (.tuple #[.int .i64 (atoiV s.data.toList), ev]) ∧ Ext w w' := by
  unfold atoiV
  rcases h : Lib.atoiAll s.data.toList with v | _ | _
  · skip
    refine (Tryd.strconv_Atoi_ok s (by omega) v h w).mono ?_
    rintro e w' ⟨rfl, h2⟩
    refine ⟨_, rfl, ?_⟩
    rcases h2 with rfl | ⟨t, rfl⟩
    · exact Ext.refl _
    · exact Lib.bytesWorld_below _ _ _
  · skip
    obtain ⟨tp, p, hv⟩ := hL.syn
    refine (Any.strconv_Atoi_syntax_var Tryd.laysC172 s hs h tp p w hv).mono ?_
    rintro e w' ⟨N, rfl, _, _, hb⟩
    exact ⟨_, rfl, hb⟩
  · skip
    obtain ⟨tp, p, hv⟩ := hL.rng
    refine (Tryd.strconv_Atoi_range_var s hs h tp p w hv).mono ?_
    rintro e w' ⟨N, rfl, _, _, hb⟩
    exact ⟨_, rfl, hb⟩
theorem LibW.drew {w : World} (h : LibW w) : LibW w.drew := h.ext ((Ext.refl w).drew)
theorem flat_S (l : List ByteArray) : l.flatMap csS = l.map Value.string := by
  induction l with
  | nil => rfl
  | cons x l ih => rw [List.flatMap_cons, ih]; rfl
theorem split_any (s : ByteArray) (c : UInt8) (hs : s.size ≤ 1000000) (w : World) (hL : LibW w) :
    Calls Tryd.prog 85 #[.string s, .string ⟨#[c]⟩] w fun e w' => ∃ v, e = .returned v ∧ OwnS w' w.heap.size v (cutB c s) ∧ Ext w w' := by
  obtain ⟨m, hm⟩ := hL.len
  refine (Any.strings_Split { Tryd.laysM146 with } Tryd.laysM146.i9 s ⟨#[c]⟩ m w (by omega) hm (by show 1 ≤ 1; omega)).mono ?_
  rintro e w' ⟨rfl, rfl⟩
  refine ⟨_, rfl, ?_, (Ext.refl w).alloc _⟩
  have h1 := countB_cut c s
  have h2 := splitB_cut c s
  have hz := cutB_size c s
  rw [h2]
  rw [h1]
  have h3 := World.ownsRow_lit (base := w.heap.size) (e := 9) (size := 1) w ((cutB c s).map Value.string).toArray (cutB c s).length (Nat.le_refl _) (by unfold maxLen; omega) (by simp)
  unfold OwnS OwnG
  rw [flat_S]
  exact h3
end
section
open Go.RowKit
set_option linter.unusedVariables false
set_option linter.unusedSimpArgs false
set_option linter.unusedSectionVars false
set_option maxRecDepth 100000
attribute [local go_sem] Oper.semAt_some

def itemS (x : It) : ByteArray := mkB (itemT (toI x))
theorem str_app2 (a b : ByteArray) : a ++ b = mkB (a.data.toList ++ b.data.toList) := by
  apply ByteArray.ext
  apply Array.ext'
  simp [mkB]
theorem itemS_int {x : It} (h : x.2.1 = 1) : (((x.1 ++ ⟨#[32, 105, 110, 116, 32]⟩) ++ mkB (Lib.itoa x.2.2.1)) ++ ⟨#[32]⟩) ++ mkB (Lib.itoa x.2.2.2.1) = itemS x := by
  unfold itemS itemT
  rw [if_pos (show (toI x).2.1 = 1 from h), str_app2, str_app2, str_app2, str_app2]
  congr 1
  simp [mkB, toI]
theorem itemS_text {x : It} (h : ¬ x.2.1 = 1) : (x.1 ++ ⟨#[32, 116, 101, 120, 116, 32]⟩) ++ mkB (Lib.itoa x.2.2.2.2) = itemS x := by
  unfold itemS itemT
  rw [if_neg (show ¬ (toI x).2.1 = 1 from h), str_app2, str_app2]
  congr 1
  simp [mkB, toI]
theorem itoaB_le (n : Int) (h0 : -9223372036854775808 ≤ n) (h1 : n ≤ 9223372036854775807) : (mkB (Lib.itoa n)).size ≤ 21 := by
  rw [mkB_size]
  exact Lib.itoa_length_le n (by omega) (by omega)
def fmtL (l : List It) : List UInt8 := if itemsB l = true then Lib.join (l.map fun x => itemT (toI x)) [59, 32] else []
theorem fmtL_P (l : List It) : fmtL l = fmtI itemsP (l.map toI) := by
  unfold fmtL fmtI
  rw [itemsP_map, List.map_map]
  rfl
theorem item_num {x : It} (h : itemB x = true) : (x.1.size ≤ 16) ∧ (-1000000000 ≤ x.2.2.1 ∧ x.2.2.1 ≤ 1000000000) ∧ (-1000000000 ≤ x.2.2.2.1 ∧ x.2.2.2.1 ≤ 1000000000) ∧ (0 ≤ x.2.2.2.2 ∧ x.2.2.2.2 ≤ 40) := by
  unfold itemB at h
  rw [Bool.and_eq_true] at h
  obtain ⟨h1, h2⟩ := h
  refine ⟨(nameF_iff.1 h1).1.2, ?_⟩
  by_cases hk : x.2.1 = 1
  · rw [if_pos hk] at h2
    have h2 := of_decide_eq_true h2
    omega
  · rw [if_neg hk] at h2
    have h2 := of_decide_eq_true h2
    omega
theorem itemS_le {x : It} (h : itemB x = true) : (itemT (toI x)).length ≤ 80 := by
  obtain ⟨h1, h2, h3, h4⟩ := item_num h
  have i1 := Lib.itoa_length_le x.2.2.1 (by omega) (by omega)
  have i2 := Lib.itoa_length_le x.2.2.2.1 (by omega) (by omega)
  have i3 := Lib.itoa_length_le x.2.2.2.2 (by omega) (by omega)
  have e : (toI x).1.length = x.1.size := by show x.1.data.toList.length = _; simp
  unfold itemT
  split
  · simp only [List.length_append, List.length_cons, List.length_nil, e]
    show x.1.size + (3 + ((Lib.itoa x.2.2.1).length + ((Lib.itoa x.2.2.2.1).length + 1) + 1) + 1) ≤ 80
    omega
  · simp only [List.length_append, List.length_cons, List.length_nil, e]
    show x.1.size + (4 + ((Lib.itoa x.2.2.2.2).length + 1) + 1) ≤ 80
    omega
theorem item_all {l : List It} (h : itemsB l = true) : l.length ≤ 8 ∧ ∀ x ∈ l, itemB x = true := by
  unfold itemsB knownB at h
  rw [Bool.and_eq_true, Bool.and_eq_true] at h
  refine ⟨of_decide_eq_true h.2.2, fun x hx => ?_⟩
  have hall : ∀ i, i < l.length → goodT l i := by simpa using h.2.1
  obtain ⟨i, hi⟩ := List.mem_iff_getElem?.1 hx
  have hlt := (List.getElem?_eq_some_iff.1 hi).1
  have := (hall i hlt).1
  rw [nthT_some hlt] at hi
  injection hi with hi
  rw [hi] at this
  exact this
theorem own_ne' {α : Type} {cs : α → List Value} {e t : TypeId} {k base B : Nat} {W : World} {v : Value} {l : List α} {C : Array Value} {fz : Nat × Nat} (h : OwnG cs e k W base v l) (hB : W.heap[B]? = some (.cells C t fz)) (hte : t ≠ e) : v.ownBlock ≠ some B := by
  intro hv
  rcases h.2 with ⟨rfl, _⟩ | ⟨g, cap, cur, rfl, hb, hg, rest⟩
  · cases hv
  · obtain rfl : g = B := by simpa [Value.ownBlock] using hv
    rw [hB] at hg
    injection hg with hg
    injection hg with _ hg _
    exact hte hg
theorem no_none {α : Type} {a : α} {p : Prop} (h : some a = none) : p := by cases h
theorem box_grown {α : Type} {cs : α → List Value} {e t : TypeId} {k base B : Nat} {W W' : World} {v : Value} {l : List α} {C : Array Value} (hB : BoxN W B t C) (h : OwnG cs e k W base v l) (hte : t ≠ e) (hg : W.grownBy W' v.ownBlock) : BoxN W' B t C := grown_heap hg hB (own_ne' h hB hte)
set_option maxHeartbeats 8000000 in
theorem format_any (P : Option Addr) (cap : Nat) (l : List It) (w : World) (h : SlT w P cap l) (ht : Tab w) :
    Calls Tryd.prog 48 #[.slice P l.length cap] w fun e w' => e = .returned (.string (mkB (fmtL l))) ∧ Ext w w' := by
  have hlen := h.len
  have hR := items_any P cap l w h
  cases hr : itemsB l with
  | false =>
    have HB := Lib.hid (show fmtL l = [] from by simp [fmtL, hr])
    simp only [hr] at hR
    clear hr
    go_enter Tryd.func48, Tryd.ntmps48
    go_wp2_with (go_at_call 20; refine hR.mono ?_; rintro e w1 ⟨rfl, hx1⟩)
    go_ret
    exact ⟨by rw [HB.out]; rfl, hx1⟩
  | true =>
    have HB := Lib.hid (show fmtL l = Lib.join (l.map fun x => itemT (toI x)) [59, 32] from by simp [fmtL, hr])
    simp only [hr] at hR
    obtain ⟨h8, hall⟩ := item_all hr
    clear hr
    go_enter Tryd.func48, Tryd.ntmps48
    go_wp2_with (go_at_call 20; refine hR.mono ?_; rintro e w1 ⟨rfl, hx1⟩)
    go_loopw [11, 3, 5] (fun i v _ wr => ∃ (k : Nat) (v' : Value), k ≤ l.length ∧ i = .int .i64 k ∧ v = v' ∧ OwnS wr w.heap.size v' ((l.take k).map itemS) ∧ Ext w wr) (fun i _ _ _ => l.length - (intOf i).toNat)
    case atStart => exact ⟨0, _, by omega, rfl, rfl, OwnG.nil _ _ _ _ _, hx1⟩
    case round =>
      obtain ⟨k, v, hk, rfl, rfl, hown, hx⟩ := hrel
      by_cases hlt : k < l.length
      · obtain ⟨b, off, hP, g0, g1, g2, g3, g4⟩ := h.itemAt k hlt
        subst hP
        have g0 := hx.cell g0
        have g1 := hx.cell g1
        have g2 := hx.cell g2
        have g3 := hx.cell g3
        have g4 := hx.cell g4
        have c1 : (k : Int) < l.length := by omega
        have d1 : IntKind.i64.wrap ((k : Int) + 1) = (k : Int) + 1 := IntWalk.i64_in _ ⟨by omega, by omega⟩
        have hv := item_num (hall _ (nthT_mem hlt))
        have hs : (l.take (k + 1)).map itemS = (l.take k).map itemS ++ [itemS (nthT l k)] := by
          rw [List.take_add_one, nthT_some hlt]
          simp
        have hln : ((l.take k).map itemS).length ≤ 8 := by simp; omega
        have HN := Lib.hid hln
        have HS := Lib.hid hs
        obtain ⟨L, hL⟩ : ∃ L, (l.take k).map itemS = L := ⟨_, rfl⟩
        rw [hL] at HS HN hown
        obtain ⟨X, hX⟩ : ∃ X, nthT l k = X := ⟨_, rfl⟩
        rw [hX] at g0 g1 g2 g3 g4 hv HS
        obtain ⟨nm, kd, lo, hi, ln⟩ := X
        simp only at g0 g1 g2 g3 g4 hv
        obtain ⟨v1, v2, v3, v4⟩ := hv
        clear hs hL hX hln
        have hone : 1 ≤ 9223372036854775807 := by omega
        have hte : (32 : TypeId) ≠ 9 := by decide
        have hbd : (L.length + 1) * 16 ≤ 140737488355328 := by have := HN.out; omega
        have hbd2 : L.length + 1 ≤ 9223372036854775807 := by have := HN.out; omega
        have HL1 := Lib.hid (show ∀ Y : ByteArray, (L ++ [Y]).length = L.length + 1 from fun Y => by simp)
        have hone : 1 ≤ 9223372036854775807 := by omega
        have hte : (32 : TypeId) ≠ 9 := by decide
        have hbd : (L.length + 1) * 16 ≤ 140737488355328 := by have := HN.out; omega
        have hbd2 : L.length + 1 ≤ 9223372036854775807 := by have := HN.out; omega
        have HL1 := Lib.hid (show ∀ Y : ByteArray, (L ++ [Y]).length = L.length + 1 from fun Y => by simp)
        have hone : 1 ≤ 9223372036854775807 := by omega
        have hte : (32 : TypeId) ≠ 9 := by decide
        have hbd : (L.length + 1) * 16 ≤ 140737488355328 := by have := HN.out; omega
        have hbd2 : L.length + 1 ≤ 9223372036854775807 := by have := HN.out; omega
        have HL1 := Lib.hid (show ∀ Y : ByteArray, (L ++ [Y]).length = L.length + 1 from fun Y => by simp)
        have hone : 1 ≤ 9223372036854775807 := by omega
        have hte : (32 : TypeId) ≠ 9 := by decide
        have hbd : (L.length + 1) * 16 ≤ 140737488355328 := by have := HN.out; omega
        have hbd2 : L.length + 1 ≤ 9223372036854775807 := by have := HN.out; omega
        have HL1 := Lib.hid (show ∀ Y : ByteArray, (L ++ [Y]).length = L.length + 1 from fun Y => by simp)
        have hone : 1 ≤ 9223372036854775807 := by omega
        have hte : (32 : TypeId) ≠ 9 := by decide
        have hbd : (L.length + 1) * 16 ≤ 140737488355328 := by have := HN.out; omega
        have hbd2 : L.length + 1 ≤ 9223372036854775807 := by have := HN.out; omega
        have HL1 := Lib.hid (show ∀ Y : ByteArray, (L ++ [Y]).length = L.length + 1 from fun Y => by simp)
        have hone : 1 ≤ 9223372036854775807 := by omega
        have hte : (32 : TypeId) ≠ 9 := by decide
        have hbd : (L.length + 1) * 16 ≤ 140737488355328 := by have := HN.out; omega
        have hbd2 : L.length + 1 ≤ 9223372036854775807 := by have := HN.out; omega
        have HL1 := Lib.hid (show ∀ Y : ByteArray, (L ++ [Y]).length = L.length + 1 from fun Y => by simp)
        by_cases hk1 : kd = 1
        · subst hk1
          have HE := itemS_int (x := (nm, 1, lo, hi, ln)) rfl
          simp only at HE
          have b1 := itoaB_le lo (by omega) (by omega)
          have b2 := itoaB_le hi (by omega) (by omega)
          have hI1 := fun W hW => itoa_T lo (by omega) (by omega) W hW
          have hI2 := fun W hW => itoa_T hi (by omega) (by omega) W hW
          have em : ∀ n, (⟨(Lib.itoa n).toArray⟩ : ByteArray) = mkB (Lib.itoa n) := fun _ => rfl
          rw [em] at hI1 hI2
          obtain ⟨I1, hi1⟩ : ∃ I, mkB (Lib.itoa lo) = I := ⟨_, rfl⟩
          obtain ⟨I2, hi2⟩ : ∃ I, mkB (Lib.itoa hi) = I := ⟨_, rfl⟩
          rw [hi1] at b1 hI1 HE
          rw [hi2] at b2 hI2 HE
          obtain ⟨Y, hY⟩ : ∃ Y, itemS (nm, 1, lo, hi, ln) = Y := ⟨_, rfl⟩
          rw [hY] at HE HS
          clear hY
          have z1 : ¬ 9223372036854775807 < nm.size + 5 := by omega
          have z2 : ¬ 9223372036854775807 < nm.size + 5 + I1.size := by omega
          have z3 : ¬ 9223372036854775807 < nm.size + 5 + I1.size + 1 := by omega
          have z4 : ¬ 9223372036854775807 < nm.size + 5 + I1.size + 1 + I2.size := by omega
          have hx2 := hx.alloc (.cells #[.string nm, .int .i64 1, .int .i64 lo, .int .i64 hi, .int .i64 ln] 32)
          have hT1 := hI1 _ (Tab.ext ht hx2.drew)
          have hBx := BoxN.new wr 32 #[.string nm, .int .i64 1, .int .i64 lo, .int .i64 hi, .int .i64 ln]
          have hown2 := hown.ext ((Ext.refl wr).alloc (.cells #[.string nm, .int .i64 1, .int .i64 lo, .int .i64 hi, .int .i64 ln] 32))
          clear hi1 hi2 em v1 v2 v3 v4 b1 b2
          go_wp2
          generalize wr.alloc (.cells #[.string nm, .int .i64 1, .int .i64 lo, .int .i64 hi, .int .i64 ln] 32) = W1 at *
          have e0 : W1.cell? ⟨wr.heap.size, 0, none⟩ = some (.string nm) := hBx.cell rfl
          have e2 : W1.cell? ⟨wr.heap.size, 2, none⟩ = some (.int .i64 lo) := hBx.cell rfl
          have e3 : W1.cell? ⟨wr.heap.size, 3, none⟩ = some (.int .i64 hi) := hBx.cell rfl
          go_region_held3 (fun w' => w'.cell? ⟨wr.heap.size, 0, none⟩ = some (.string nm) ∧ w'.cell? ⟨wr.heap.size, 2, none⟩ = some (.int .i64 lo) ∧ w'.cell? ⟨wr.heap.size, 3, none⟩ = some (.int .i64 hi)) (go_keep)
            (first
              | (go_at_call 82; (with_reducible refine hT1.mono ?_); rintro e w5 ⟨rfl, hx5⟩; have hx6 := hx2.drew.trans hx5; have hT2 := hI2 w5 (Tab.ext ht hx6); have y0 := hx5.cell e0; have y2 := hx5.cell e2; have y3 := hx5.cell e3)
              | (go_at_call 82; (with_reducible refine hT2.mono ?_); rintro e w6 ⟨rfl, hx7⟩; have hx8 := hx6.trans hx7; have z0 := hx7.cell y0; have z2 := hx7.cell y2; have z3 := hx7.cell y3; have hown6 := hown2.ext ((Ext.refl W1).drew.trans (hx5.trans hx7)); have hB6 := hBx.ext ((Ext.refl W1).drew.trans (hx5.trans hx7)))
              | (refine step_app_G w elemS ?_ (.tmp 18) (.tmp 31) ?_ u3 L [Y] 1 (some ⟨?_, 0, none⟩) 1 ?_ ?_ rfl ?_ ?_ no_none ?_ ?_ ?_ ?_
                 · rfl
                 · rfl
                 rotate_left 1
                 · rfl
                 · rfl
                 · exact hown6.ext ((Ext.refl w6).alloc (.cells #[.string (Y)] 9))
                 · exact SlG.lit (cs := csS) (k := 1) elemS.hk [Y] rfl rfl rfl hone
                 · exact hbd
                 · exact hbd2
                 · exact hx8.alloc (.cells #[.string (Y)] 9)
                 intro v' w' ho' hx' hg'
                 have hB7 := box_grown (hB6.ext ((Ext.refl w6).alloc (.cells #[.string (Y)] 9))) (hown6.ext ((Ext.refl w6).alloc (.cells #[.string (Y)] 9))) hte hg'
                 have q0 : w'.cell? ⟨wr.heap.size, 0, none⟩ = some (.string nm) := hB7.cell rfl
                 have q2 : w'.cell? ⟨wr.heap.size, 2, none⟩ = some (.int .i64 lo) := hB7.cell rfl
                 have q3 : w'.cell? ⟨wr.heap.size, 3, none⟩ = some (.int .i64 hi) := hB7.cell rfl)
              | fail)
          obtain ⟨g6, c6, rfl, _, _, _, _⟩ := ho'.tight (by rw [List.length_append]; exact Nat.succ_pos _)
          rw [← HS.out] at ho'
          go_wp2
          go_roundw
          case rel => exact ⟨k + 1, _, by omega, by go_num, by rw [HS.out], ho', hx'⟩
          case measure => simp [intOf]; omega
        · have HE := itemS_text (x := (nm, kd, lo, hi, ln)) hk1
          simp only at HE
          have nk : (kd == 1) = false := by simpa using hk1
          have b1 := itoaB_le ln (by omega) (by omega)
          have hI1 := fun W hW => itoa_T ln (by omega) (by omega) W hW
          have em : ∀ n, (⟨(Lib.itoa n).toArray⟩ : ByteArray) = mkB (Lib.itoa n) := fun _ => rfl
          rw [em] at hI1
          obtain ⟨I1, hi1⟩ : ∃ I, mkB (Lib.itoa ln) = I := ⟨_, rfl⟩
          rw [hi1] at b1 hI1 HE
          obtain ⟨Y, hY⟩ : ∃ Y, itemS (nm, kd, lo, hi, ln) = Y := ⟨_, rfl⟩
          rw [hY] at HE HS
          clear hY
          have z1 : ¬ 9223372036854775807 < nm.size + 6 := by omega
          have z2 : ¬ 9223372036854775807 < nm.size + 6 + I1.size := by omega
          clear hk1
          have hx2 := hx.alloc (.cells #[.string nm, .int .i64 kd, .int .i64 lo, .int .i64 hi, .int .i64 ln] 32)
          have hT1 := hI1 _ (Tab.ext ht hx2.drew)
          have hBx := BoxN.new wr 32 #[.string nm, .int .i64 kd, .int .i64 lo, .int .i64 hi, .int .i64 ln]
          have hown2 := hown.ext ((Ext.refl wr).alloc (.cells #[.string nm, .int .i64 kd, .int .i64 lo, .int .i64 hi, .int .i64 ln] 32))
          clear hi1 em v1 v2 v3 v4 b1
          go_wp2
          generalize wr.alloc (.cells #[.string nm, .int .i64 kd, .int .i64 lo, .int .i64 hi, .int .i64 ln] 32) = W1 at *
          have e0 : W1.cell? ⟨wr.heap.size, 0, none⟩ = some (.string nm) := hBx.cell rfl
          have e4 : W1.cell? ⟨wr.heap.size, 4, none⟩ = some (.int .i64 ln) := hBx.cell rfl
          go_region_held3 (fun w' => w'.cell? ⟨wr.heap.size, 0, none⟩ = some (.string nm) ∧ w'.cell? ⟨wr.heap.size, 4, none⟩ = some (.int .i64 ln)) (go_keep)
            (first
              | (go_at_call 82; (with_reducible refine hT1.mono ?_); rintro e w6 ⟨rfl, hx5⟩; have hx8 := hx2.drew.trans hx5; have z0 := hx5.cell e0; have z4 := hx5.cell e4; have hown6 := hown2.ext ((Ext.refl W1).drew.trans hx5); have hB6 := hBx.ext ((Ext.refl W1).drew.trans hx5))
              | (refine step_app_G w elemS ?_ (.tmp 33) (.tmp 41) ?_ u3 L [Y] 1 (some ⟨?_, 0, none⟩) 1 ?_ ?_ rfl ?_ ?_ no_none ?_ ?_ ?_ ?_
                 · rfl
                 · rfl
                 rotate_left 1
                 · rfl
                 · rfl
                 · exact hown6.ext ((Ext.refl w6).alloc (.cells #[.string (Y)] 9))
                 · exact SlG.lit (cs := csS) (k := 1) elemS.hk [Y] rfl rfl rfl hone
                 · exact hbd
                 · exact hbd2
                 · exact hx8.alloc (.cells #[.string (Y)] 9)
                 intro v' w' ho' hx' hg'
                 have hB7 := box_grown (hB6.ext ((Ext.refl w6).alloc (.cells #[.string (Y)] 9))) (hown6.ext ((Ext.refl w6).alloc (.cells #[.string (Y)] 9))) hte hg'
                 have q0 : w'.cell? ⟨wr.heap.size, 0, none⟩ = some (.string nm) := hB7.cell rfl
                 have q4 : w'.cell? ⟨wr.heap.size, 4, none⟩ = some (.int .i64 ln) := hB7.cell rfl)
              | fail)
          obtain ⟨g6, c6, rfl, _, _, _, _⟩ := ho'.tight (by rw [List.length_append]; exact Nat.succ_pos _)
          rw [← HS.out] at ho'
          go_wp2
          go_roundw
          case rel => exact ⟨k + 1, _, by omega, by go_num, by rw [HS.out], ho', hx'⟩
          case measure => simp [intOf]; omega
      · obtain rfl : k = l.length := by omega
        rw [List.take_length] at hown
        have hjl : (Lib.join (l.map fun x => itemT (toI x)) [59, 32]).length ≤ 140737488355328 := by
          have := join_le [59, 32] 80 (l.map fun x => itemT (toI x)) (by
            intro y hy
            obtain ⟨x, hx, rfl⟩ := List.mem_map.1 hy
            exact itemS_le (hall x hx))
          rw [List.length_map] at this
          have h2 : l.length * (80 + [59, 32].length) ≤ 8 * 82 := Nat.mul_le_mul h8 (by simp)
          omega
        rcases hown.2 with ⟨rfl, hl0⟩ | ⟨g, c, cur, rfl, hgb, hg, hcl, hcm, hcs, htk⟩
        · rw [List.length_map] at hl0
          obtain rfl := List.length_eq_zero_iff.1 hl0
          go_wp2_with (go_at_call 76; refine (Tryd.strings_Join_none _ _ _ _).mono ?_; rintro e w2 ⟨rfl, rfl⟩)
          go_ret
          exact ⟨by rw [HB.out]; rfl, hx⟩
        · have hJ := Tryd.strings_Join g 0 c (l.map itemS) ⟨#[59, 32]⟩ wr (fun j x hj => by
            have := OwnG.cell (cs := csS) (n := (l.map itemS).length) (fun _ => rfl) hown rfl j x hj 0 (.string x) rfl
            simpa using this) (Array.getElem?_eq_some_iff.1 hg).1 (by rw [List.length_map]; omega) hcl (by
              rw [List.map_map]
              exact hjl)
          rw [List.map_map] at hJ
          rw [show ((fun x : ByteArray => x.data.toList) ∘ itemS) = fun x => itemT (toI x) from by funext x; simp [itemS, mkB]] at hJ
          rw [List.length_map] at hJ
          rw [List.length_map]
          clear hown hall
          generalize Lib.join (l.map fun x => itemT (toI x)) [59, 32] = z at *
          go_wp2_with (go_at_call 76; refine hJ.mono ?_; rintro e w2 ⟨rfl, hx2⟩)
          go_ret
          exact ⟨by rw [HB.out]; rfl, hx.trans hx2⟩
end
end Go.Proofs.YtepgpejdnlejnaaDoor
