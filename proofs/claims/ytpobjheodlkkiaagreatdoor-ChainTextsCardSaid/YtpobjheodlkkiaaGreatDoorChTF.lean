/- ChainTexts: Parse of the program: the parts of a round. -/
import Derived.Test.YtpobjheodlkkiaaGreatDoorChTE
import Derived.Test.YtpobjheodlkkiaaGreatDoorTxL
import Derived.Test.YtpobjheodlkkiaaGreatDoorHeld
import Derived.OwnWalkIn
import Derived.RangeFuncBox
import Derived.RangeFuncNested
import Derived.Lib.SliceRun
import Derived.WalkMore
import Derived.Sort.LoopGhostIn
namespace Go.Proofs.YtpobjheodlkkiaaGreatDoor
open Go.RowKit Go.Maps
set_option linter.unusedVariables false
set_option linter.unusedSimpArgs false
set_option linter.unusedSectionVars false
set_option maxRecDepth 100000
attribute [local go_sem] Oper.semAt_some

theorem wpIn_round_F {P : Program} {r id : Nat} {ops : Array Oper} {Q : Exit → Act → World → Prop} {a : Act} {w : World} (C : World → Prop) (m : Nat) (hnd : ops.all noDefer = true) (hQ : ¬ LetsOut Q) (hm : P.follows .mixedOrders = true)
    (h : wpAnyF P .any ops Q C m ops.size (Array.replicate ops.size false) a { w with drawn := w.drawn + 1 }) : (Code.region id ops true).wpIn (Fence.wide.inRound r) 0 P Q a w :=
  wpIn_region_any hm (wpAnyIn_round_of_plain hnd hQ _ _ _ _ (wpAny_of_F _ _ _ _ h))
theorem OwnG.kept2 {w w' : World} {base k : Nat} {v : Value} {l : List Lk} (h : OwnL w base v l) (hu : Upd w k w') (hk : k < base) : OwnL w' base v l := by
  refine OwnG.kept h hu ?_
  cases hv : v.ownBlock with
  | none => exact .inl rfl
  | some g => exact .inr (fun e => by injection e with e; have := h.base_ g hv; omega)
/-- what is read so far -/
structure PSC (w : World) (n4 base : Nat) (L : List Lk) (W : World) : Prop where
  a : ∃ v, Boxed W n4 22 v ∧ OwnL W base v L
  x : Ext w W
theorem PSC.ext {w W W' : World} {n4 base : Nat} {L : List Lk} (h : PSC w n4 base L W) (hx : Ext W W') : PSC w n4 base L W' := by
  obtain ⟨v, h1, h2⟩ := h.a
  exact ⟨⟨v, hx.heap h1, h2.ext hx⟩, h.x.trans hx⟩
theorem PSC.upd {w W W' : World} {n4 base k : Nat} {L : List Lk} (h : PSC w n4 base L W) (hu : Upd W k W') (h1 : w.heap.size ≤ k) (h3 : n4 ≠ k) (h4 : k < base) : PSC w n4 base L W' := by
  obtain ⟨v, a1, a2⟩ := h.a
  exact ⟨⟨v, hu.heap a1 h3, a2.kept2 hu h4⟩, Upd.ext h.x hu h1⟩
/-- the reading up to line i -/
def readCN (t : List UInt8) (i : Nat) : List Lk := ((linesC t).take i).map stepC
def lineN (t : List UInt8) (i : Nat) : List UInt8 := (linesC t).getD i []
theorem readCN_succ (t : List UInt8) (i : Nat) (h : i < (linesC t).length) : readCN t (i + 1) = readCN t i ++ [stepC (lineN t i)] := by
  unfold readCN lineN
  rw [List.take_add_one, List.getElem?_eq_getElem h, List.map_append, List.getD_eq_getElem?_getD, List.getElem?_eq_getElem h]
  rfl
theorem readCN_all (t : List UInt8) : readCN t (linesC t).length = readC t := by unfold readCN readC; rw [List.take_length]
theorem atoiV_in (l : List UInt8) : OkI (atoiV l) := by
  unfold atoiV
  rcases h : Lib.atoiAll l with v | _ | _
  · skip
    simp only
    cases l with
    | nil => simp [Lib.atoiAll] at h
    | cons c r =>
      simp only [Lib.atoiAll] at h
      split at h
      · cases h
      · cases h
      · rename_i u hu
        split at h
        · cases h
        · split at h
          · cases h
          · rename_i h1 h2
            injection h with h
            subst h
            unfold OkI
            split
            · rename_i hc
              have : ¬ 9223372036854775808 < u := fun hh => h2 ⟨hc, hh⟩
              omega
            · rename_i hc
              have : ¬ 9223372036854775808 ≤ u := fun hh => h1 ⟨hc, hh⟩
              omega
  · simp only; exact ⟨by decide, by decide⟩
  · simp only; unfold Lib.atoiSat; split <;> exact ⟨by decide, by decide⟩
theorem stepC_in (l : List UInt8) : OkK (stepC l) := by
  have h : ∀ o, OkI (stepC.atoiV0 o) := fun o => by
    cases o with
    | none => exact ⟨by decide, by decide⟩
    | some x => exact atoiV_in x
  exact ⟨h _, h _, h _, h _⟩
theorem readC_in (t : List UInt8) : ∀ x ∈ readC t, OkK x := fun x hx => by
  obtain ⟨l, _, rfl⟩ := List.mem_map.1 hx
  exact stepC_in l
theorem linesC_len : ∀ (t : List UInt8), (linesC t).length ≤ t.length
  | [] => by simp [linesC]
  | x :: r => by
    have := linesC_len r
    unfold linesC
    split
    · simp; omega
    · cases h : linesC r with
      | nil => simp [hdc]
      | cons p q => rw [h] at this; simp [hdc] at *; omega
theorem linesC_mem : ∀ (t : List UInt8), ∀ p ∈ linesC t, p.length ≤ t.length
  | [], p, h => by simp [linesC] at h
  | x :: r, p, h => by
    have hm := linesC_mem r
    unfold linesC at h
    split at h
    · rcases List.mem_cons.1 h with rfl | h
      · simp
      · have := hm p h; simp; omega
    · cases h' : linesC r with
      | nil => rw [h'] at h; simp [hdc] at h; simp [h]
      | cons a q =>
        rw [h'] at h hm
        simp only [hdc, List.mem_cons] at h
        rcases h with rfl | h
        · have := hm a (by simp); simp; omega
        · have := hm p (by simp [h]); simp; omega
theorem lineN_len (t : List UInt8) (i : Nat) : (lineN t i).length ≤ t.length := by
  unfold lineN
  rw [List.getD_eq_getElem?_getD]
  cases h : (linesC t)[i]? with
  | none => simp
  | some p => exact linesC_mem t p (List.mem_of_getElem? h)
theorem trim_len (l : List UInt8) : (Lib.trimSuffix l [10]).length ≤ l.length := by
  unfold Lib.trimSuffix
  split
  · rw [List.length_take]; omega
  · exact Nat.le_refl _
/-- the numbers of a line, over byte arrays -/
def xC (pw : List ByteArray) (i : Nat) : Int := match pw[i]? with | some y => atoiV y.data.toList | none => 0
theorem stepC_B (ln : List UInt8) : stepC ln = (xC (spB (mkB (Lib.trimSuffix ln [10]))) 0, xC (spB (mkB (Lib.trimSuffix ln [10]))) 1, xC (spB (mkB (Lib.trimSuffix ln [10]))) 2, xC (spB (mkB (Lib.trimSuffix ln [10]))) 3) := by
  have hR := spB_R (mkB (Lib.trimSuffix ln [10]))
  rw [mkB_toList] at hR
  have g : ∀ k, stepC.atoiV0 ((Lib.splitN (Lib.trimSuffix ln [10]) [32] 4)[k]?) = xC (spB (mkB (Lib.trimSuffix ln [10]))) k := fun k => by
    rw [← hR, List.getElem?_map]
    unfold xC
    cases (spB (mkB (Lib.trimSuffix ln [10])))[k]? <;> rfl
  unfold stepC
  rw [g, g, g, g]
theorem A4_end (x : Nat → Int) (n : Nat) (hn : n ≤ 4) (h : ∀ i, n ≤ i → x i = 0) : A4 x n = I4 (x 0) (x 1) (x 2) (x 3) := by
  rcases (show n = 0 ∨ n = 1 ∨ n = 2 ∨ n = 3 ∨ n = 4 by omega) with rfl | rfl | rfl | rfl | rfl <;> unfold A4 I4 <;> simp [h]
theorem A4_old (x : Nat → Int) (k : Nat) (hk : k < 4) : (A4 x k)[k]? = some (.int .i64 0) := by
  rcases (show k = 0 ∨ k = 1 ∨ k = 2 ∨ k = 3 by omega) with rfl | rfl | rfl | rfl <;> rfl
theorem mk4_run (W : World) : (Instr.makeSlice 31 (.int .i64 4) (.int .i64 4)).run Tryz.prog W = .ok (.slice (some ⟨W.heap.size, 0, none⟩) 4 4) (W.alloc (.cells (I4 0 0 0 0) 3)) := by
  have := run_make_row' (P := Tryz.prog) 31 3 (.int .i64 0) 8 Tryz.underlying31 (by kernel_rfl) rfl .i64 .i64 4 (by omega) (by omega) W
  have e : madeCells #[.int .i64 0] 4 = I4 0 0 0 0 := by kernel_rfl
  rw [e] at this
  exact this
end Go.Proofs.YtpobjheodlkkiaaGreatDoor
