/- What the library's functions on texts read of the package-level variables; Itoa, Atoi, Split, TrimSuffix as they are used. -/
import Derived.Test.YtgdbhmdhonnmgaaDoorTxL
import Derived.Shelf.LaysM
import Derived.Lib.AtoiErrMem
import Derived.Shelf.Strings.SplitShaped
namespace Go.Proofs.YtgdbhmdhonnmgaaDoor
open Go.RowKit
set_option linter.unusedVariables false
set_option linter.unusedSimpArgs false
set_option linter.unusedSectionVars false
set_option maxRecDepth 100000
attribute [local go_sem] Oper.semAt_some

theorem var_ext {w w' : World} {n : String} {v : Array Value} (h : w.var? Tryd.prog n = some v) (hx : Ext w w') : w'.var? Tryd.prog n = some v := by
  unfold World.var? at *
  cases hg : Tryd.prog.globalNamed n with
  | none => rw [hg] at h; cases h
  | some g =>
    rw [hg] at h
    simp only [Option.bind_some] at h ⊢
    cases hh : w.heap[g]? with
    | none => rw [hh] at h; cases h
    | some o => rw [hx.heap hh]; rw [hh] at h; exact h
/-- what is read of the library's variables -/
structure LibW (w : World) : Prop where
  tab : Lib.TabIs Tryd.prog w "internal/strconv.uint64pow10" .u64 Lib.pow10Tab
  syn : ∃ tp p, w.var? Tryd.prog "strconv.ErrSyntax" = some #[.iface tp p]
  rng : ∃ tp p, w.var? Tryd.prog "strconv.ErrRange" = some #[.iface tp p]
  len : ∃ m, w.cell? ⟨3, 0, none⟩ = some (.int .i64 m)
theorem LibW.ext {w w' : World} (h : LibW w) (hx : Ext w w') : LibW w' := by
  refine ⟨?_, ?_, ?_, ?_⟩
  · have := h.tab
    unfold Lib.TabIs at *
    exact var_ext this hx
  · obtain ⟨tp, p, h1⟩ := h.syn
    exact ⟨tp, p, var_ext h1 hx⟩
  · obtain ⟨tp, p, h1⟩ := h.rng
    exact ⟨tp, p, var_ext h1 hx⟩
  · obtain ⟨m, h1⟩ := h.len
    exact ⟨m, hx.cell h1⟩
theorem grow_ext (w : World) (k : Nat) (os : Array Obj) : Ext w (Sort.grow (w.drewN k) os) :=
  ⟨rfl, rfl, rfl, by simp [Sort.grow, World.drewN], fun i hi => Sort.heap_grow_old (w.drewN k) os (by exact hi)⟩
theorem itoa_any (n : Int) (h0 : -9223372036854775808 ≤ n) (h1 : n ≤ 9223372036854775807) (w : World) (hL : LibW w) :
    Calls Tryd.prog 13 #[.int .i64 n] w fun e w' => e = .returned (.string (mkB (Lib.itoa n))) ∧ Ext w w' := by
  refine (Tryd.strconv_Itoa n h0 h1 w hL.tab).mono ?_
  rintro e w' ⟨rfl, k, os, rfl⟩
  exact ⟨rfl, grow_ext w k os⟩
theorem atoi_any (s : ByteArray) (hs : s.size ≤ 281474976710656) (w : World) (hL : LibW w) :
    Calls Tryd.prog 20 #[.string s] w fun e w' => ∃ ev, e = .returned (.tuple #[.int .i64 (atoiV s.data.toList), ev]) ∧ Ext w w' := by
  unfold atoiV
  rcases h : Lib.atoiAll s.data.toList with v | _ | _
  · skip
    refine (Tryd.strconv_Atoi_ok s (by omega) v h w).mono ?_
    rintro e w' ⟨rfl, h2⟩
    refine ⟨_, rfl, ?_⟩
    rcases h2 with rfl | ⟨t, rfl⟩
    · exact Ext.refl _
    · exact Lib.bytesWorld_below _ _ _
  · skip
    obtain ⟨tp, p, hv⟩ := hL.syn
    refine (Any.strconv_Atoi_syntax_var Tryd.laysC172 s hs h tp p w hv).mono ?_
    rintro e w' ⟨N, rfl, _, _, hb⟩
    exact ⟨_, rfl, hb⟩
  · skip
    obtain ⟨tp, p, hv⟩ := hL.rng
    refine (Tryd.strconv_Atoi_range_var s hs h tp p w hv).mono ?_
    rintro e w' ⟨N, rfl, _, _, hb⟩
    exact ⟨_, rfl, hb⟩
theorem LibW.drew {w : World} (h : LibW w) : LibW w.drew := h.ext ((Ext.refl w).drew)
theorem flat_S (l : List ByteArray) : l.flatMap csS = l.map Value.string := by
  induction l with
  | nil => rfl
  | cons x l ih => rw [List.flatMap_cons, ih]; rfl
theorem split_any (s : ByteArray) (c : UInt8) (hs : s.size ≤ 1000000) (w : World) (hL : LibW w) :
    Calls Tryd.prog 18 #[.string s, .string ⟨#[c]⟩] w fun e w' => ∃ v, e = .returned v ∧ OwnS w' w.heap.size v (cutB c s) ∧ Ext w w' := by
  obtain ⟨m, hm⟩ := hL.len
  refine (Any.strings_Split { Tryd.laysM146 with } Tryd.laysM146.i9 s ⟨#[c]⟩ m w (by omega) hm (by show 1 ≤ 1; omega)).mono ?_
  rintro e w' ⟨rfl, rfl⟩
  refine ⟨_, rfl, ?_, (Ext.refl w).alloc _⟩
  have h1 := countB_cut c s
  have h2 := splitB_cut c s
  have hz := cutB_size c s
  rw [h2]
  rw [h1]
  have h3 := World.ownsRow_lit (base := w.heap.size) (e := 9) (size := 1) w ((cutB c s).map Value.string).toArray (cutB c s).length (Nat.le_refl _) (by unfold maxLen; omega) (by simp)
  unfold OwnS OwnG
  rw [flat_S]
  exact h3
theorem trim_any (s : ByteArray) (hs : s.size ≤ 1000000) (w : World) :
    Calls Tryd.prog 19 #[.string s, .string ⟨#[10]⟩] w fun e w' => e = .returned (.string (mkB (Lib.trimSuffix s.data.toList [10]))) ∧ w' = w := Tryd.strings_TrimSuffix s ⟨#[10]⟩ w (by omega)
end Go.Proofs.YtgdbhmdhonnmgaaDoor
