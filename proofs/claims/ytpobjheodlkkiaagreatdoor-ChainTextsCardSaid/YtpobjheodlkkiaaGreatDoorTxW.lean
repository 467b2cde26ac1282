/- What the library's functions on texts read of the package-level variables; Itoa, Atoi, Split, TrimSuffix as they are used. -/
import Derived.Test.YtpobjheodlkkiaaGreatDoorTxL
import Derived.Shelf.LaysM
import Derived.Lib.AtoiErrMem
import Derived.Shelf.Strings.SplitShaped
namespace Go.Proofs.YtpobjheodlkkiaaGreatDoor
open Go.RowKit
set_option linter.unusedVariables false
set_option maxRecDepth 20000
set_option linter.unusedSimpArgs false
set_option linter.unusedSectionVars false
set_option maxRecDepth 100000
attribute [local go_sem] Oper.semAt_some

theorem var_ext {w w' : World} {n : String} {v : Array Value} (h : w.var? Tryz.prog n = some v) (hx : Ext w w') : w'.var? Tryz.prog n = some v := by
  unfold World.var? at *
  cases hg : Tryz.prog.globalNamed n with
  | none => rw [hg] at h; cases h
  | some g =>
    rw [hg] at h
    simp only [Option.bind_some] at h ⊢
    cases hh : w.heap[g]? with
    | none => rw [hh] at h; cases h
    | some o => rw [hx.heap hh]; rw [hh] at h; exact h
/-- what is read of the library's variables -/
structure LibW (w : World) : Prop where
  tab : Lib.TabIs Tryz.prog w "internal/strconv.uint64pow10" .u64 Lib.pow10Tab
  syn : ∃ tp p, w.var? Tryz.prog "strconv.ErrSyntax" = some #[.iface tp p]
  rng : ∃ tp p, w.var? Tryz.prog "strconv.ErrRange" = some #[.iface tp p]
  len : ∃ m, w.cell? ⟨3, 0, none⟩ = some (.int .i64 m)
theorem LibW.ext {w w' : World} (h : LibW w) (hx : Ext w w') : LibW w' := by
  refine ⟨?_, ?_, ?_, ?_⟩
  · have := h.tab
    unfold Lib.TabIs at *
    exact var_ext this hx
  · obtain ⟨tp, p, h1⟩ := h.syn
    exact ⟨tp, p, var_ext h1 hx⟩
  · obtain ⟨tp, p, h1⟩ := h.rng
    exact ⟨tp, p, var_ext h1 hx⟩
  · obtain ⟨m, h1⟩ := h.len
    exact ⟨m, hx.cell h1⟩
theorem grow_ext (w : World) (k : Nat) (os : Array Obj) : Ext w (Sort.grow (w.drewN k) os) :=
  ⟨rfl, rfl, rfl, by simp [Sort.grow, World.drewN], fun i hi => Sort.heap_grow_old (w.drewN k) os (by exact hi)⟩
theorem itoa_any (n : Int) (h0 : -9223372036854775808 ≤ n) (h1 : n ≤ 9223372036854775807) (w : World) (hL : LibW w) :
    Calls Tryz.prog 14 #[.int .i64 n] w fun e w' => e = .returned (.string (mkB (Lib.itoa n))) ∧ Ext w w' := by
  refine (Tryz.strconv_Itoa n h0 h1 w hL.tab).mono ?_
  rintro e w' ⟨rfl, k, os, rfl⟩
  exact ⟨rfl, grow_ext w k os⟩
theorem atoi_any (s : ByteArray) (hs : s.size ≤ 281474976710656) (w : World) (hL : LibW w) :
    Calls Tryz.prog 21 #[.string s] w fun e w' => ∃ ev, e = .returned (.tuple #[.int .i64 (atoiV s.data.toList), ev]) ∧ Ext w w' := by
  unfold atoiV
  rcases h : Lib.atoiAll s.data.toList with v | _ | _
  · skip
    refine (Tryz.strconv_Atoi_ok s (by omega) v h w).mono ?_
    rintro e w' ⟨rfl, h2⟩
    refine ⟨_, rfl, ?_⟩
    rcases h2 with rfl | ⟨t, rfl⟩
    · exact Ext.refl _
    · exact Lib.bytesWorld_below _ _ _
  · skip
    obtain ⟨tp, p, hv⟩ := hL.syn
    refine (Any.strconv_Atoi_syntax_var Tryz.laysC172 s hs h tp p w hv).mono ?_
    rintro e w' ⟨N, rfl, _, _, hb⟩
    exact ⟨_, rfl, hb⟩
  · skip
    obtain ⟨tp, p, hv⟩ := hL.rng
    refine (Tryz.strconv_Atoi_range_var s hs h tp p w hv).mono ?_
    rintro e w' ⟨N, rfl, _, _, hb⟩
    exact ⟨_, rfl, hb⟩
theorem LibW.drew {w : World} (h : LibW w) : LibW w.drew := h.ext ((Ext.refl w).drew)
theorem flat_S (l : List ByteArray) : l.flatMap csS = l.map Value.string := by
  induction l with
  | nil => rfl
  | cons x l ih => rw [List.flatMap_cons, ih]; rfl

/-- the pieces of strings.SplitN at a blank, four at most -/
def spB (s : ByteArray) : List ByteArray := Lib.splitB ⟨#[32]⟩ 0 (min 4 (s.size + 1) - 1) s
theorem spB_R (s : ByteArray) : (spB s).map (·.data.toList) = Lib.splitN s.data.toList [32] 4 := by
  unfold spB Lib.splitN
  have h : s.data.toList.length = s.size := by simp
  rw [h]
  exact Lib.splitB_data ⟨#[32]⟩ 0 _ s
theorem spB_len (s : ByteArray) : (spB s).length ≤ 4 := by
  have := Lib.splitB_length_le ⟨#[32]⟩ 0 (min 4 (s.size + 1) - 1) s
  unfold spB
  omega
theorem splitK_mem (sep : List UInt8) : ∀ (k : Nat) (s : List UInt8), ∀ p ∈ Lib.splitK sep 0 k s, p.length ≤ s.length
  | 0, s, p, h => by simp [Lib.splitK] at h; simp [h]
  | k + 1, s, p, h => by
    unfold Lib.splitK at h
    split at h
    · simp at h; simp [h]
    · rcases List.mem_cons.1 h with rfl | h
      · rw [List.length_take]; omega
      · have := splitK_mem sep k _ p h
        rw [List.length_drop] at this
        omega
theorem spB_mem (s : ByteArray) : ∀ y ∈ spB s, y.size ≤ s.size := fun y hy => by
  have h1 : y.data.toList ∈ (spB s).map (·.data.toList) := List.mem_map.2 ⟨y, hy, rfl⟩
  rw [spB_R] at h1
  have := splitK_mem [32] _ _ _ h1
  have h2 : y.data.toList.length = y.size := by simp
  have h3 : s.data.toList.length = s.size := by simp
  omega
theorem splitn_any (s : ByteArray) (hs : s.size ≤ 1000000) (w : World) (hL : LibW w) :
    Calls Tryz.prog 19 #[.string s, .string ⟨#[32]⟩, .int .i64 4] w fun e w' => ∃ cap, e = .returned (.slice (some ⟨w.heap.size, 0, none⟩) (spB s).length cap) ∧ SlS w' (some ⟨w.heap.size, 0, none⟩) cap (spB s) ∧ Ext w w' := by
  obtain ⟨m, hm⟩ := hL.len
  refine (Any.strings_SplitN { Tryz.laysM147 with } Tryz.laysM147.i9 s ⟨#[32]⟩ 4 m w (by omega) hm (by show 1 ≤ 1; omega) (by omega) (by omega)).mono ?_
  rintro e w' ⟨rfl, rfl⟩
  have hlen : (spB s).length ≤ min 4 (s.size + 1) := by
    have := Lib.splitB_length_le ⟨#[32]⟩ 0 (min 4 (s.size + 1) - 1) s
    unfold spB
    omega
  refine ⟨_, rfl, ⟨fun i x hi => ⟨_, 0, rfl, fun j v hj => ?_⟩, hlen, by omega⟩, (Ext.refl w).alloc _⟩
  have hil := (List.getElem?_eq_some_iff.1 hi).1
  match j, hj with
  | 0, hj =>
    simp at hj
    subst hj
    have hh := World.alloc_heap_new w (.cells (Lib.cellsOf (spB s) (min 4 (s.size + 1))) (Tryz.laysM147_ren.t 9))
    show World.cell? _ ⟨w.heap.size, 0 + i * 1 + 0, none⟩ = _
    rw [show 0 + i * 1 + 0 = i by omega]
    have hc : (Lib.cellsOf (spB s) (min 4 (s.size + 1)))[i]? = some (.string x) := by
      unfold Lib.cellsOf
      rw [List.getElem?_toArray, List.getElem?_append_left (by rw [List.length_map]; exact hil), List.getElem?_map, hi]
      rfl
    unfold World.cell?
    unfold spB at hh hc
    simp only [hh]
    exact hc
  | j + 1, hj => simp at hj
theorem trim_any (s : ByteArray) (hs : s.size ≤ 1000000) (w : World) :
    Calls Tryz.prog 20 #[.string s, .string ⟨#[10]⟩] w fun e w' => e = .returned (.string (mkB (Lib.trimSuffix s.data.toList [10]))) ∧ w' = w := Tryz.strings_TrimSuffix s ⟨#[10]⟩ w (by omega)
end Go.Proofs.YtpobjheodlkkiaaGreatDoor
