/- A value as it is written: item.written. -/
import Derived.Test.YtepgpejdnlejnaaDoorItT
import Derived.Test.YtepgpejdnlejnaaDoorItS
import Derived.Test.YtepgpejdnlejnaaDoorItC
import Derived.Shelf.Abstract
import Derived.WalkSmall
namespace Go.Proofs.YtepgpejdnlejnaaDoor
open Go.RowKit
set_option linter.unusedVariables false
set_option linter.unusedSimpArgs false
set_option linter.unusedSectionVars false
set_option maxRecDepth 100000
attribute [local go_sem] Oper.semAt_some

/-- the library's table of powers of ten -/
def Tab (w : World) : Prop := Lib.TabIs Tryd.prog w "internal/strconv.uint64pow10" .u64 Lib.pow10Tab
def escA (s : ByteArray) (n : Nat) : List UInt8 := (List.range n).flatMap fun i => escL (byteU s i)
def wrL (v : Vl) : List UInt8 := if v.1 = 1 then Lib.itoa v.2.1 else [34] ++ escA v.2.2 v.2.2.size ++ [34]
theorem Tab.ext {w w' : World} (h : Tab w) (hx : Ext w w') : Tab w' := by
  unfold Tab Lib.TabIs World.var? at *
  cases hg : Tryd.prog.globalNamed "internal/strconv.uint64pow10" with
  | none => rw [hg] at h; cases h
  | some g =>
    rw [hg] at h
    simp only [Option.bind_some] at h ⊢
    cases hh : w.heap[g]? with
    | none => rw [hh] at h; cases h
    | some o => rw [hx.heap hh]; rw [hh] at h; exact h
theorem grow_ext (w : World) (k : Nat) (os : Array Obj) : Ext w (Sort.grow (w.drewN k) os) :=
  ⟨rfl, rfl, rfl, by simp [Sort.grow, World.drewN], fun i hi => Sort.heap_grow_old (w.drewN k) os (by exact hi)⟩
theorem escL_le (c : UInt8) : (escL c).length ≤ 4 := by
  unfold escL
  split
  · simp
  · split <;> simp
theorem escA_succ (s : ByteArray) (n : Nat) : escA s (n + 1) = escA s n ++ escL (byteU s n) := by
  unfold escA
  rw [List.range_succ, List.flatMap_append]
  simp
theorem escA_le (s : ByteArray) : ∀ n, (escA s n).length ≤ 4 * n
  | 0 => by simp [escA]
  | n + 1 => by
    rw [escA_succ, List.length_append]
    have := escA_le s n
    have := escL_le (byteU s n)
    omega
/-- block b is a strings.Builder that holds the bytes l, its buffer behind it -/
def Bld (w : World) (b : Nat) (l : List UInt8) : Prop := Lib.IsBuilderF BldT 5 b b (Lib.byteCells l) w
theorem Bld.ext {w w' : World} {b : Nat} {l : List UInt8} (h : Bld w b l) (hx : Ext w w') : Bld w' b l := by
  have key : ∀ p, Lib.BuilderAtF BldT 5 b b p (Lib.byteCells l) w → Lib.BuilderAtF BldT 5 b b p (Lib.byteCells l) w' := by
    rintro p ⟨hB, v, hb, hown, hne⟩
    refine ⟨hB, v, hx.heap hb, ?_, hne⟩
    exact hown.kept (row := none) ⟨hx.os, hx.tape, hx.output, hx.size, fun k hk _ => hx.block hk⟩ (by cases hv : v.ownBlock with | none => exact .inl rfl | some g => exact .inr (by simp))
  rcases h with h | h
  · exact .inl (key _ h)
  · exact .inr (key _ h)
theorem Bld.loop {w : World} {b S : Nat} {l : List UInt8} {r r' : Loop} (h : Bld w b l) (hS : w.heap[S]? = some (.loop r)) : Bld (w.putObj S (.loop r')) b l := by
  have key : ∀ p, Lib.BuilderAtF BldT 5 b b p (Lib.byteCells l) w → Lib.BuilderAtF BldT 5 b b p (Lib.byteCells l) (w.putObj S (.loop r')) := by
    rintro p ⟨hB, v, hb, hown, hne⟩
    have hbS : b ≠ S := fun e => by subst e; rw [hS] at hb; cases hb
    refine ⟨hB, v, ?_, ?_, hne⟩
    · rw [World.putObj_heap_other hbS]; exact hb
    · refine hown.kept (row := some S) (grownBy_putObj' _ _ _) (.inr ?_)
      intro e
      obtain ⟨c, fz, hc⟩ := Lib.ownsRowF_kind hown S e
      rw [hS] at hc
      cases hc
  rcases h with h | h
  · exact .inl (key _ h)
  · exact .inr (key _ h)
theorem ext_below {a b c : World} {B : Nat} (h : Ext a b) (k : Below B b c) (hB : a.heap.size ≤ B) : Ext a c := Below.trans h (Below.mono k hB)
theorem kept_loop {w w' : World} {b S : Nat} {r : Loop} (h : Lib.OthersKept 5 (some b) w w') (hS : w.heap[S]? = some (.loop r)) (hne : S ≠ b) : w'.heap[S]? = some (.loop r) := h S _ hS (by simpa using hne) (by intro c fz e; cases e)
theorem kept_defer {w w' : World} {b S : Nat} {l : Option (List Deferred)} (h : Lib.OthersKept 5 (some b) w w') (hS : w.heap[S]? = some (.deferred l)) (hne : S ≠ b) : w'.heap[S]? = some (.deferred l) := h S _ hS (by simpa using hne) (by intro c fz e; cases e)
theorem kept_box {w w' : World} {b c : Nat} {s : ByteArray} (h : Lib.OthersKept 5 (some b) w w') (hc : Boxed w c 9 (.string s)) (hne : c ≠ b) : Boxed w' c 9 (.string s) := h c _ hc (by simpa using hne) (by intro d fz e; injection e with _ e _; exact absurd e (by decide))
theorem byteCells_str (l : List UInt8) (m : List UInt8) : Lib.byteCells l ++ Lib.strCells ⟨m.toArray⟩ = Lib.byteCells (l ++ m) := by
  simp [Lib.byteCells, Lib.strCells]
set_option maxHeartbeats 4000000 in
theorem written_any (v : Vl) (w : World) (ht : Tab w) (h1 : -9223372036854775808 ≤ v.2.1 ∧ v.2.1 ≤ 9223372036854775807) (h2 : v.2.2.size ≤ 1000) :
    Calls Tryd.prog 75 #[v.v] w fun e w' => e = .returned (.string ⟨(wrL v).toArray⟩) ∧ Ext w w' := by
  obtain ⟨k, n, s⟩ := v
  show Calls _ _ #[.agg #[.int .i64 k, .int .i64 n, .string s]] _ _
  by_cases hk : k = 1
  · subst hk
    have hI := fun W hx => Tryd.strconv_Itoa n h1.1 h1.2 W (Tab.ext ht hx)
    go_enter Tryd.func75, Tryd.ntmps75
    go_wp2_with (go_at_call 82; refine (hI _ ((Ext.refl w).alloc _)).mono ?_; rintro e w1 ⟨rfl, m, os, rfl⟩)
    go_ret
    exact ⟨rfl, ((Ext.refl w).alloc _).trans (grow_ext _ _ _)⟩
  · have hk1 : (k == 1) = false := by simpa using hk
    refine calls_of_wpAt Tryd.func75 rfl ?_
    simp only [Tryd.ntmps75, List.size_toArray, List.length_cons, List.length_nil, Nat.reduceAdd, Nat.reduceSub, Array.replicate_succ, Array.replicate_zero, List.push_toArray, List.append_toArray, List.nil_append, List.cons_append]
    refine wpAt_seq_k (fun K hK => ?_)
    go_wp2
    refine wpAt_seq_k (fun K hK => ?_)
    go_wp2
    obtain ⟨W0, hW0⟩ : ∃ W0, w.alloc (.cells #[.int .i64 k, .int .i64 n, .string s] 29) = W0 := ⟨_, rfl⟩
    have hx0 : Ext w W0 := hW0 ▸ (Ext.refl w).alloc _
    have hs0 : W0.heap.size = w.heap.size + 1 := by rw [← hW0]; simp
    have hc0 : W0.cell? ⟨w.heap.size, 2, none⟩ = some (.string s) := by rw [← hW0]; exact (World.cell?_alloc_mark _ _ _ _ 2).trans rfl
    try rw [hW0]
    have hb0 : Bld (W0.alloc (.cells #[.pointer none, .slice none 0 0] BldT)) (w.heap.size + 1) [] := by rw [← hs0]; exact Lib.IsBuilderF.of (Lib.fresh_isBuilder BldT 5 W0)
    refine wpAt_seq_k (fun K hK => ?_)
    go_wp2
    refine wpAt_seq_k (fun K hK => ?_)
    go_wp2_with (go_at_call 98; refine (bbyte_any (w.heap.size + 1) (w.heap.size + 1) (Lib.byteCells []) 34 _ hb0 (by simp [Lib.byteCells]) (by simp; omega)).mono ?_; rintro e W1 ⟨rfl, hB1, hlo1, hot1⟩)
    have hx1 : Ext w W1 := ext_below (hx0.alloc _) hlo1 (by omega)
    have hc1 : W1.cell? ⟨w.heap.size, 2, none⟩ = some (.string s) := by
      rw [World.cell?, hlo1.block _ (by simp)]
      exact (World.cell?_alloc_lt W0 _ ⟨w.heap.size, 2, none⟩ (by simp; omega)).trans hc0
    have hs1 : w.heap.size + 2 ≤ W1.heap.size := by have := hlo1.size; simp at this; omega
    replace hB1 : Bld W1 (w.heap.size + 1) [34] := .inr hB1
    clear hot1 hlo1 hb0 hc0
    refine wpAt_seq ?_
    refine wpAt_seq_k (fun K hK => ?_)
    go_wp2_with (go_at_call 99; refine (escaped_any s _).mono ?_; rintro e W2 ⟨rfl, rfl⟩)
    obtain ⟨W2, hW2⟩ : ∃ W2, W1.alloc (.cells #[.string s] 9) = W2 := ⟨_, rfl⟩
    rw [hW2]
    have hx2 : Ext W1 W2 := hW2 ▸ (Ext.refl W1).alloc _
    have hbox2 : Boxed W2 W1.heap.size 9 (.string s) := hW2 ▸ Boxed.new _ _ _
    have hs2 : W2.heap.size = W1.heap.size + 1 := by rw [← hW2]; simp
    replace hB1 := hB1.ext hx2
    replace hx1 := hx1.trans hx2
    clear hW2 hx2 hc1
    generalize W1.heap.size = c at *
    refine wpAt_block ?_
    refine wpAt_rangeFunc2 (hf := Tryd.func75) (gf := 113) (lb := #[.pointer (some ⟨c, 0, none⟩)]) rfl (enters_of Tryd.func113 (by kernel_rfl) rfl)
      (escaped_seq s _ (by omega)) (fun _ => rfl)
      (fun i W => Bld W (w.heap.size + 1) ([34] ++ escA s i) ∧ Boxed W c 9 (.string s) ∧ Ext w W)
      (fun _ _ _ => False)
      (fun i ch W => False)
      (fun i A B ⟨h1, h2, h3⟩ hx => ⟨h1.ext hx, hx.heap h2, h3.trans hx⟩)
      (fun _ _ _ _ h _ => h)
      (fun i A r r' ⟨h1, h2, h3⟩ hl => ⟨h1.loop hl, (World.putObj_heap_other (by omega)).trans h2, Upd.ext h3 (grownBy_putObj' _ _ _) (by omega)⟩)
      (fun _ _ _ _ _ h _ => h)
      (fun i A h => h.2.1.cell)
      ⟨hB1, hbox2, hx1⟩ ?round ?done (fun _ _ _ _ h _ => h.elim) (fun _ _ _ _ h _ => h.elim)
    case round =>
      rintro i W r ⟨h1, h2, h3⟩ hW hD hL hi
      gi_wp2
      refine ⟨trivial, trivial, ?_⟩
      rintro W5 r' hW5
      have hL5 : W5.heap[W2.heap.size + 1]? = some (.loop r') := by rw [hW5]; exact World.putObj_heap_same (by omega)
      have hD5 : W5.heap[W2.heap.size]? = some (.deferred (some [])) := by rw [hW5, World.putObj_heap_other (by omega)]; exact hD
      have hs5 : W5.heap.size = W.heap.size := by rw [hW5]; simp [World.putObj]
      replace h1 : Bld W5 (w.heap.size + 1) ([34] ++ escA s i) := hW5 ▸ h1.loop hL
      replace h2 : Boxed W5 c 9 (.string s) := by rw [hW5]; exact (World.putObj_heap_other (by omega)).trans h2
      replace h3 : Ext w W5 := by rw [hW5]; exact Upd.ext h3 (grownBy_putObj' _ _ _) (by omega)
      clear hW5 hD hL
      have hl := escA_le s i
      have hl2 := escL_le (byteU s i)
      have hsz : (escS s i).size ≤ 4 := hl2
      gi_wp2_with (refine ⟨trivial, rfl, ?_⟩; gi_at_call 100; refine (callsIn_wide.2 (bstr_any (w.heap.size + 1) (w.heap.size + 1) _ (escS s i) _ h1 (by rw [Lib.byteCells_length]; simp only [List.length_append, List.length_cons, List.length_nil]; omega) (by omega))).mono ?_; rintro e W6 ⟨rfl, hB6, hlo6, hot6⟩)
      refine ⟨(kept_defer hot6 hD5 (by omega)).trans hD5.symm, (kept_loop hot6 hL5 (by omega)).trans hL5.symm, ?_, kept_box hot6 h2 (by omega), ext_below h3 hlo6 (by omega)⟩
      rw [escA_succ, ← List.append_assoc]
      refine .inr ?_
      rw [← byteCells_str]
      exact hB6
    case done =>
      rintro W ⟨h1, h2, h3⟩ hD
      rw [hs2] at hD
      have hl := escA_le s s.size
      have hW := h3.size
      have hsW : c + 1 < W.heap.size := (Array.getElem?_eq_some_iff.1 hD).1
      refine wpAt_of_wp ?_
      go_wp2_with (first
        | (go_at_call 98; refine (bbyte_any (w.heap.size + 1) (w.heap.size + 1) _ 34 _ h1 (by rw [Lib.byteCells_length]; simp only [List.length_append, List.length_cons, List.length_nil]; omega) (by omega)).mono ?_; rintro e W7 ⟨rfl, hB7, hlo7, hot7⟩; have hB8 : Bld W7 (w.heap.size + 1) ([34] ++ escA s s.size ++ [34]) := .inr (by rw [Lib.byteCells_append]; exact hB7))
        | (go_at_call 101; refine (Tryd.Builder_String_any_k (w.heap.size + 1) (w.heap.size + 1) _ _ hB8 (by have := hlo7.size; omega)).mono ?_; rintro e W8 ⟨rfl, hB9, hlo8, hot8⟩))
      refine ⟨by simp, .inl ⟨_, _, rfl, run_takeDeferred (kept_defer hot8 (kept_defer hot7 hD (by omega)) (by omega)), ?_⟩⟩
      refine ⟨_, results_tmp rfl _ _ _, ?_, ?_⟩
      · show Ending.returned (.string ⟨(34 :: (escA s s.size ++ [34])).toArray⟩) = _
        unfold wrL
        rw [if_neg (show ¬ (k, n, s).1 = 1 from hk)]
        rfl
      · exact Upd.ext (ext_below (ext_below h3 hlo7 (by omega)) hlo8 (by omega)) (grownBy_putObj' _ _ _) (by omega)
end Go.Proofs.YtepgpejdnlejnaaDoor
