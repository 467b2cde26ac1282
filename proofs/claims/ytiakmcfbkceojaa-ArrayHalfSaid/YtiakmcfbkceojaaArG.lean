/- Arrays: all keys in order; Keys and Count. -/
import Derived.Test.YtiakmcfbkceojaaArF
namespace Go.Proofs.Ytiakmcfbkceojaa
open Go.RowKit Go.Maps
set_option linter.unusedVariables false
set_option linter.unusedSimpArgs false
set_option maxRecDepth 20000

theorem SlI.news {w : World} {b off cap : Nat} {m : List Int} (h : SlI w (some ⟨b, off, none⟩) cap m) : ∀ j u, (intVs m)[j]? = some u → w.cell? ((⟨b, off, none⟩ : Addr).add j) = some u := by
  intro j u hj
  have hjl := (List.getElem?_eq_some_iff.1 hj).1
  rw [intVs_length] at hjl
  obtain ⟨b', off', e, hc⟩ := h.at_ j hjl
  simp only [Option.some.injEq, Addr.mk.injEq, and_true] at e
  obtain ⟨rfl, rfl⟩ := e
  rw [intVs_get m j hjl] at hj
  rw [Go.WideShapes.add_plain, hc, hj]
/-- append of a list to a row of the call's own -/
theorem append_ints (w : World) (base : Nat) (v : Value) (l m : List Int) (b off cap : Nat) (hown : w.ownsRow base 3 1 v l.length (intVs l)) (hm : SlI w (some ⟨b, off, none⟩) cap m) (hl : l.length + m.length ≤ 100000) (hb : base ≤ w.heap.size) :
    ∃ v' w', (Builtin.append_ #[22, 22] 22 #[v, .slice (some ⟨b, off, none⟩) m.length cap]).run Try.prog w = .ok v' w' ∧ w'.ownsRow base 3 1 v' (l ++ m).length (intVs (l ++ m)) ∧ w.grownBy w' v.ownBlock ∧ (v'.ownBlock = v.ownBlock ∨ v'.ownBlock = some w.heap.size) := by
  obtain ⟨i0, hi, hz0, hz1, hz2⟩ := info_parts infoI
  obtain ⟨v', w', r1, r2, r3, _, r5⟩ := run_append_own_at (P := Try.prog) w base 22 22 3 i0 _ 1 8 Try.underlying22 hi hz0 hz1 hz2 rfl (by decide) v l.length (intVs l) hown ⟨b, off, none⟩ m.length cap (intVs m) (by rw [intVs_length]; omega) hm.news (intVs_one m) (by simp only [maxLen]; omega) (by omega) hb
  refine ⟨v', w', r1, ?_, r3, r5⟩
  have e : intVs l ++ intVs m = intVs (l ++ m) := by simp [intVs]
  rw [e] at r2
  have e2 : (l ++ m).length = l.length + m.length := List.length_append
  rw [e2]
  exact r2
theorem flat_take_le (LL : List (List Int)) (k : Nat) : (LL.take k).flatten.length ≤ LL.flatten.length := by
  have : LL.flatten.length = (LL.take k).flatten.length + (LL.drop k).flatten.length := by
    conv => lhs; rw [← List.take_append_drop k LL]
    simp only [List.flatten_append, List.length_append]
  omega
/-- the first blocks are gathered -/
def FlatR (LL : List (List Int)) (w : World) (i v : Value) (wr : World) : Prop :=
  ∃ k : Nat, k ≤ LL.length ∧ i = .int .i64 k ∧ wr.ownsRow w.heap.size 3 1 v (LL.take k).flatten.length (intVs (LL.take k).flatten) ∧ Ext w wr
theorem rflat_any (P : Option Addr) (cap : Nat) (Q : Nat → Option Addr) (C : Nat → Nat) (LL : List (List Int)) (w : World) (h : SlA w P cap Q C LL) (hne : ∀ l ∈ LL, l ≠ []) (ht : LL.flatten.length ≤ 1000) :
    Calls Try.prog 48 #[.slice P LL.length cap] w fun e w' => ∃ v, e = .returned v ∧ w'.ownsRow w.heap.size 3 1 v LL.flatten.length (intVs LL.flatten) ∧ Ext w w' := by
  have hlen := h.len
  go_enter Try.func48, Try.ntmps48
  go_wp2
  go_loopw [4, 3] (fun i v wr => FlatR LL w i v wr) (fun i _ _ => LL.length - (intOf i).toNat)
  case atStart => exact ⟨0, by omega, rfl, World.ownsRow_nil w w.heap.size 3 1, Ext.refl w⟩
  case round =>
    obtain ⟨k, hk, rfl, hM, hx⟩ := hrel
    by_cases hlt : k < LL.length
    · obtain ⟨bb, off, hP, hc⟩ := h.at_ k hlt
      subst hP
      replace hc := hx.cell hc
      have hn0 := List.length_pos_iff.2 (hne _ (nthA_mem hlt))
      obtain ⟨b2, off2, hQ, _⟩ := (h.row k hlt).at_ 0 hn0
      have hrow := (h.row k hlt).ext hx
      rw [hQ] at hc hrow
      have hf := flat_take hlt
      have hle := flat_take_le LL (k + 1)
      rw [hf, List.length_append] at hle
      have hblk := hM.lt
      obtain ⟨v', w2, hrun, hown2, hg2, _⟩ := append_ints wr w.heap.size u3 _ (nthA LL k) b2 off2 (C k) hM hrow (by omega) hx.size
      rw [← hf] at hown2
      have hx2 : Ext w w2 := Below.grown hx hg2 hx.size (fun j hj => (hblk j hj).1)
      have c1 : (k : Int) < LL.length := by omega
      clear hQ hf hle hM hrow
      go_wp2_with (at_builtin; refine Lib.wpList_append_run _ rfl _ _ _ _ rfl _ _ rfl rfl _ _ hrun ?_)
      go_roundw
      case rel => exact ⟨k + 1, by omega, by go_num, hown2, hx2⟩
      case measure => simp [intOf]; omega
    · obtain rfl : k = LL.length := by omega
      rw [List.take_length] at hM
      go_wp2
      go_ret
      exact ⟨_, rfl, hM, hx⟩
theorem grow_any (n : Nat) (w : World) (hn : n ≤ 1000) :
    Calls Try.prog 75 #[.slice none 0 0, .int .i64 n] w fun e w' => ∃ v, e = .returned v ∧ w'.ownsRow w.heap.size 3 1 v 0 [] ∧ Ext w w' := by
  by_cases h0 : n = 0
  · subst h0
    go_enter Try.func75, Try.ntmps75
    go_wp2
    go_ret
    exact ⟨_, rfl, World.ownsRow_nil w w.heap.size 3 1, Ext.refl w⟩
  · obtain ⟨i0, hi0, hz0, hz1, hz2⟩ := info_parts infoI
    have hold : (Builtin.firstCells i0.size 0 (.slice none 0 0)).run Try.prog w.drew = .ok ([] : List Value).toArray w.drew := by rw [hz1]; rfl
    have hap := Lib.run_append_grow_zeros w 22 3 22 3 i0 _ .i64 .i64 Try.underlying22 Try.underlying3 hi0 hz0 none 0 0 [] hold n (by omega) (by omega) (by omega) (by omega) (by rw [hz2]; omega) (by
      rw [hz2]
      exact growslice_fits (by omega) (by omega))
    simp only [Nat.zero_add] at hap
    have hG1 : n ≤ grownCap w n 0 3 := grownCap_ge w _ _ _
    have hG2 : grownCap w n 0 3 ≤ 9223372036854775807 := by
      have := grownCap_le_maxLen w n 0 3 (by simp only [maxLen]; omega)
      simpa only [maxLen] using this
    generalize grownCap w n 0 3 = G at *
    have hS : (([] : List Value).toArray ++ Builtin.zeroCells (Value.cells (.int .i64 0)) n ++ Builtin.zeroCells (Value.cells (.int .i64 0)) (G - n)).size = G := by
      simp only [Array.size_append, size_zeroCells, Value.cells]
      simp
      omega
    generalize ([] : List Value).toArray ++ Builtin.zeroCells (Value.cells (.int .i64 0)) n ++ Builtin.zeroCells (Value.cells (.int .i64 0)) (G - n) = X at *
    have hown : (w.drew.alloc (.cells X 3)).ownsRow w.heap.size 3 1 (.slice (some ⟨w.heap.size, 0, none⟩) 0 G) 0 [] :=
      World.ownsRow_made w.drew X G (Nat.le_refl _) (by simpa only [maxLen] using hG2) (by omega)
    have c1 : ¬ (n : Int) < 0 := by omega
    have c2 : (0 : Int) < n := by omega
    have hx : Ext w (w.drew.alloc (.cells X 3)) := ((Ext.refl w).drew).alloc _
    clear hold hS h0
    go_enter Try.func75, Try.ntmps75
    go_wp2_with (at_builtin; refine Lib.wpList_append_run _ rfl _ _ _ _ rfl _ _ rfl rfl _ _ hap ?_)
    go_ret
    exact ⟨_, rfl, hown, hx⟩
end Go.Proofs.Ytiakmcfbkceojaa
