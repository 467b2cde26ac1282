/- Items: the place of a name, Find of both; rows of the call's own. -/
import Derived.Test.YtepgpejdnlejnaaDoorItO
import Derived.Test.YtepgpejdnlejnaaDoorItV
namespace Go.Proofs.YtepgpejdnlejnaaDoor
open Go.RowKit
set_option linter.unusedVariables false
set_option linter.unusedSimpArgs false
set_option linter.unusedSectionVars false
set_option maxRecDepth 20000
attribute [local go_sem] Oper.semAt_some

theorem flat_at {α : Type} {cs : α → List Value} {k : Nat} (hk : ∀ x, (cs x).length = k) : ∀ (l : List α) (i j : Nat) (x : α) (u : Value), l[i]? = some x → (cs x)[j]? = some u → (l.flatMap cs)[i * k + j]? = some u
  | [], i, j, x, u, h, _ => by simp at h
  | y :: l, 0, j, x, u, h, hu => by
    simp at h
    subst h
    rw [List.flatMap_cons, Nat.zero_mul, Nat.zero_add, List.getElem?_append_left (List.getElem?_eq_some_iff.1 hu).1]
    exact hu
  | y :: l, i + 1, j, x, u, h, hu => by
    have := flat_at hk l i j x u (by simpa using h) hu
    rw [List.flatMap_cons, List.getElem?_append_right (by rw [hk, Nat.add_mul]; omega), hk]
    rw [show (i + 1) * k + j - k = i * k + j from by rw [Nat.add_mul]; omega]
    exact this
/-- a row of the call's own, read -/
theorem own_slG {α : Type} {cs : α → List Value} {k : Nat} (hk : ∀ x, (cs x).length = k) {w : World} {base : Nat} {e : TypeId} {v : Value} {l : List α} (h : w.ownsRow base e k v l.length (l.flatMap cs)) (hl : l.length ≤ 9223372036854775807) :
    ∃ P cap, v = .slice P l.length cap ∧ SlG cs w P cap l := by
  rcases h.2 with ⟨rfl, h0⟩ | ⟨g, cap, cur, rfl, hb, hg, hcl, hcm, hcs, htk⟩
  · obtain rfl := List.length_eq_zero_iff.1 h0
    exact ⟨none, 0, rfl, SlG.nil _ _⟩
  · refine ⟨_, cap, rfl, ⟨fun i x hi => ⟨g, 0, rfl, fun j u hj => ?_⟩, hcl, by unfold maxLen at hcm; exact hcm⟩⟩
    have := h.cells (g := g) rfl (i * k + j) u (flat_at hk l i j x u hi hj)
    rw [hk]
    rw [← this]
    congr 1
    cases hn : i * k + j with
    | zero => simp [Addr.add]; omega
    | succ n => simp [Addr.add]; omega

theorem placef_any (x : It) (s : ByteArray) (c : Nat) (w : World) (hc : w.cell? ⟨c, 0, none⟩ = some (.string s)) :
    Calls Tryd.prog 97 #[x.v, .pointer (some ⟨c, 0, none⟩)] w fun e w' => e = .returned (.bool (decide (x.1 = s))) ∧ Ext w w' := by
  have hlt := block_lt hc
  simp only at hlt
  obtain ⟨n, k, lo, hi, len⟩ := x
  show Calls _ _ #[.agg #[.string n, .int .i64 k, .int .i64 lo, .int .i64 hi, .int .i64 len], .pointer (some ⟨c, 0, none⟩)] _ _
  have HB := Lib.hid (show decide (n = s) = (n.toList == s.toList) from by
    rw [Lib.toList_data, Lib.toList_data]
    by_cases h : n = s
    · subst h; simp
    · rw [decide_eq_false h]
      symm
      rw [beq_eq_false_iff_ne]
      intro e
      exact h (ByteArray.ext (Array.ext' e)))
  simp only
  rw [HB.out]
  go_enter Tryd.func97, Tryd.ntmps97
  go_wp2
  go_ret
  exact ⟨rfl, (Ext.refl w).alloc _⟩
theorem indexf_any (P : Option Addr) (cap : Nat) (l : List It) (s : ByteArray) (c : Nat) (w : World) (h : SlT w P cap l) (hc : w.cell? ⟨c, 0, none⟩ = some (.string s)) :
    Calls Tryd.prog 96 #[.slice P l.length cap, .func (.func 97) #[] #[.pointer (some ⟨c, 0, none⟩)]] w fun e w' => e = .returned (.int .i64 (idxF l s)) ∧ Ext w w' := by
  have hlen := h.len
  go_enter Tryd.func96, Tryd.ntmps96
  go_wp2
  go_loopw [8, 5] (fun i _ wr => ∃ k : Nat, k ≤ l.length ∧ i = .int .i64 k ∧ (∀ (j : Nat) (y : It), j < k → l[j]? = some y → y.1 ≠ s) ∧ Ext w wr) (fun i _ _ => l.length - (intOf i).toNat)
  case atStart => exact ⟨0, by omega, rfl, by intro j y hj; omega, Ext.refl w⟩
  case round =>
    obtain ⟨k, hk, rfl, hall, hx⟩ := hrel
    by_cases hlt : k < l.length
    · obtain ⟨b, off, hP, g0, g1, g2, g3, g4⟩ := h.itemAt k hlt
      subst hP
      have g0 := hx.cell g0
      have g1 := hx.cell g1
      have g2 := hx.cell g2
      have g3 := hx.cell g3
      have g4 := hx.cell g4
      have c1 : (k : Int) < l.length := by omega
      have d1 : IntKind.i64.wrap ((k : Int) + 1) = (k : Int) + 1 := IntWalk.i64_in _ ⟨by omega, by omega⟩
      have hs := nthT_some hlt
      have hV := placef_any (nthT l k) s c wr (hx.cell hc)
      unfold It.v at hV
      by_cases he : (nthT l k).1 = s
      · have Hn : Hid (idxF l s = k) := Lib.hid (idxF_at l s k _ hs hall he)
        rw [decide_eq_true he] at hV
        generalize nthT l k = x at *
        clear hall hs he
        go_wp2_with (go_at_call 97; refine hV.mono ?_; rintro e w1 ⟨rfl, hx1⟩)
        go_ret
        exact ⟨by rw [Hn.out]; rfl, hx.trans hx1⟩
      · have Hy : Hid (∀ (j : Nat) (y : It), j < k + 1 → l[j]? = some y → y.1 ≠ s) := Lib.hid (fun j y hj hy => by
          by_cases hjk : j = k
          · subst hjk; rw [hs] at hy; injection hy with hy; subst hy; exact he
          · exact hall j y (by omega) hy)
        rw [decide_eq_false he] at hV
        generalize nthT l k = x at *
        clear hall hs he
        go_wp2_with (go_at_call 97; refine hV.mono ?_; rintro e w1 ⟨rfl, hx1⟩)
        go_roundw
        case rel => exact ⟨k + 1, by omega, by go_num, Hy.out, hx.trans hx1⟩
        case measure => simp [intOf]; omega
    · obtain rfl : k = l.length := by omega
      have Hn : Hid (idxF l s = -1) := Lib.hid (idxF_no l s (fun j y hy => hall j y (List.getElem?_eq_some_iff.1 hy).1 hy))
      clear hall
      go_wp2
      go_ret
      exact ⟨by rw [Hn.out]; rfl, hx⟩
theorem place_any (P : Option Addr) (cap : Nat) (l : List It) (s : ByteArray) (w : World) (h : SlT w P cap l) :
    Calls Tryd.prog 71 #[.slice P l.length cap, .string s] w fun e w' => e = .returned (.int .i64 (idxF l s)) ∧ Ext w w' := by
  have hI := fun t => indexf_any P cap l s w.heap.size (w.alloc (.cells #[.string s] t)) (h.ext ((Ext.refl w).alloc _)) ((World.cell?_alloc_mark _ _ _ _ 0).trans rfl)
  generalize idxF l s = z at *
  go_enter Tryd.func71, Tryd.ntmps71
  go_wp2_with (go_at_call 96; refine (hI _).mono ?_; rintro e w1 ⟨rfl, hx1⟩)
  go_ret
  exact ⟨rfl, ((Ext.refl w).alloc _).trans hx1⟩
/-- Find: the place and the error -/
def findF (l : List It) (s : ByteArray) : Int × Int := if itemsB l = true then (if 0 ≤ idxF l s then (idxF l s, 0) else (0, 5)) else (0, 1)
set_option maxHeartbeats 4000000 in
theorem find_any (P : Option Addr) (cap : Nat) (l : List It) (s : ByteArray) (w : World) (h : SlT w P cap l) :
    Calls Tryd.prog 38 #[.slice P l.length cap, .string s] w fun e w' => e = .returned (.tuple #[.int .i64 (findF l s).1, .int .i64 (findF l s).2]) ∧ Ext w w' := by
  have hI := items_any P cap l w h
  have hP := fun W hx => place_any P cap l s W (h.ext hx)
  cases hv : itemsB l with
  | false =>
    have HB := Lib.hid (show findF l s = (0, 1) from by simp [findF, hv])
    rw [hv] at hI
    rw [HB.out]
    go_enter Tryd.func38, Tryd.ntmps38
    go_wp2_with (go_at_call 20; refine hI.mono ?_; rintro e w1 ⟨rfl, hx1⟩)
    go_ret2
    exact ⟨rfl, hx1⟩
  | true =>
    rw [hv] at hI
    by_cases hz : 0 ≤ idxF l s
    · have HB := Lib.hid (show findF l s = (idxF l s, 0) from by simp [findF, hv, hz])
      rw [HB.out]
      generalize idxF l s = z at *
      go_enter Tryd.func38, Tryd.ntmps38
      go_wp2_with (first
        | (go_at_call 20; refine hI.mono ?_; rintro e w1 ⟨rfl, hx1⟩)
        | (go_at_call 71; refine (hP _ hx1).mono ?_; rintro e w2 ⟨rfl, hx2⟩))
      go_ret2
      exact ⟨rfl, hx1.trans hx2⟩
    · have HB := Lib.hid (show findF l s = (0, 5) from by simp [findF, hv, hz])
      have hz1 : decide (0 ≤ idxF l s) = false := decide_eq_false hz
      rw [HB.out]
      generalize idxF l s = z at *
      clear hz
      go_enter Tryd.func38, Tryd.ntmps38
      go_wp2_with (first
        | (go_at_call 20; refine hI.mono ?_; rintro e w1 ⟨rfl, hx1⟩)
        | (go_at_call 71; refine (hP _ hx1).mono ?_; rintro e w2 ⟨rfl, hx2⟩))
      go_ret2
      exact ⟨rfl, hx1.trans hx2⟩
set_option maxHeartbeats 4000000 in
theorem rfind_any (P : Option Addr) (cap : Nat) (l : List It) (s : ByteArray) (w : World) (h : SlT w P cap l) :
    Calls Tryd.prog 39 #[.slice P l.length cap, .string s] w fun e w' => e = .returned (.tuple #[.int .i64 (findF l s).1, .int .i64 (findF l s).2]) ∧ Ext w w' := by
  have hI := ritems_any P cap l w h
  have hP := fun W hx => rindex_any P cap l s W (h.ext hx)
  cases hv : itemsB l with
  | false =>
    have HB := Lib.hid (show findF l s = (0, 1) from by simp [findF, hv])
    rw [hv] at hI
    rw [HB.out]
    go_enter Tryd.func39, Tryd.ntmps39
    go_wp2_with (go_at_call 21; refine hI.mono ?_; rintro e w1 ⟨rfl, hx1⟩)
    go_ret2
    exact ⟨rfl, hx1⟩
  | true =>
    rw [hv] at hI
    by_cases hz : idxF l s < 0
    · have HB := Lib.hid (show findF l s = (0, 5) from by simp only [findF, hv, if_true]; rw [if_neg (by omega)])
      rw [HB.out]
      generalize idxF l s = z at *
      go_enter Tryd.func39, Tryd.ntmps39
      go_wp2_with (first
        | (go_at_call 21; refine hI.mono ?_; rintro e w1 ⟨rfl, hx1⟩)
        | (go_at_call 72; refine (hP _ hx1).mono ?_; rintro e w2 ⟨rfl, rfl⟩))
      go_ret2
      exact ⟨rfl, hx1⟩
    · have HB := Lib.hid (show findF l s = (idxF l s, 0) from by simp only [findF, hv, if_true]; rw [if_pos (by omega)])
      have hz1 : decide (idxF l s < 0) = false := decide_eq_false hz
      rw [HB.out]
      generalize idxF l s = z at *
      clear hz
      go_enter Tryd.func39, Tryd.ntmps39
      go_wp2_with (first
        | (go_at_call 21; refine hI.mono ?_; rintro e w1 ⟨rfl, hx1⟩)
        | (go_at_call 72; refine (hP _ hx1).mono ?_; rintro e w2 ⟨rfl, rfl⟩))
      go_ret2
      exact ⟨rfl, hx1⟩
end Go.Proofs.YtepgpejdnlejnaaDoor
