/- Arrays: lists of numbers and blocks compared; all keys in order, of the reference. -/
import Derived.Test.YtgdbhmdhonnmgaaDoorArE
namespace Go.Proofs.YtgdbhmdhonnmgaaDoor
open Go.RowKit Go.Maps
set_option linter.unusedVariables false
set_option maxRecDepth 20000
set_option linter.unusedSimpArgs false
set_option maxRecDepth 20000

theorem eq_of_nthI {l m : List Int} (h : l.length = m.length) (hj : ∀ j, j < l.length → nthI l j = nthI m j) : l = m := by
  apply List.ext_getElem h
  intro i h1 h2
  have := hj i h1
  simpa [nthI, List.getD_eq_getElem?_getD, h1, h2] using this
theorem eq_of_nthA {l m : List (List Int)} (h : l.length = m.length) (hj : ∀ j, j < l.length → nthA l j = nthA m j) : l = m := by
  apply List.ext_getElem h
  intro i h1 h2
  have := hj i h1
  simpa [nthA, List.getD_eq_getElem?_getD, h1, h2] using this
/-- the first k keys are the same -/
def SameR (l m : List Int) (w : World) (i : Value) (wr : World) : Prop := ∃ k n : Nat, k ≤ l.length ∧ i = .int .i64 k ∧ wr = w.drewN n ∧ ∀ j, j < k → nthI l j = nthI m j
def Quietly (w : World) (e0 e : Ending) (w' : World) : Prop := e = e0 ∧ ∃ n, w' = w.drewN n
theorem sameInts_any (P Q : Option Addr) (c d : Nat) (l m : List Int) (w : World) (h1 : SlI w P c l) (h2 : SlI w Q d m) :
    Calls Tryd.prog 21 #[.slice P l.length c, .slice Q m.length d] w (Quietly w (.returned (.bool (decide (l = m))))) := by
  have hl1 : l.length ≤ 9223372036854775807 := Nat.le_trans h1.le h1.cap
  have hl2 : m.length ≤ 9223372036854775807 := Nat.le_trans h2.le h2.cap
  by_cases hlen : l.length = m.length
  · have HE := fun hj => Lib.hid (eq_of_nthI hlen hj)
    have HN := Lib.hid hlen
    rw [← hlen]
    clear hlen
    go_enter Tryd.func21, Tryd.ntmps21
    go_wp2
    go_loopw [5, 4] (fun i _ wr => SameR l m w i wr) (fun i _ _ => l.length - (intOf i).toNat)
    case atStart => exact ⟨0, 0, by omega, rfl, by rw [World.drewN_zero], fun j hj => by omega⟩
    case round =>
      obtain ⟨k, n, hk, rfl, rfl, ha⟩ := hrel
      by_cases hlt : k < l.length
      · obtain ⟨b1, o1, rfl, g1⟩ := h1.at_ k hlt
        obtain ⟨b2, o2, rfl, g2⟩ := h2.at_ k (by have := HN.out; omega)
        have c1 : (k : Int) < l.length := by omega
        by_cases he : nthI l k = nthI m k
        · have hnext : ∀ j, j < k + 1 → nthI l j = nthI m j := fun j hj => by
            by_cases hjk : j = k
            · subst hjk; exact he
            · exact ha j (by omega)
          have Hn := Lib.hid hnext
          clear hnext ha HE
          rw [← he] at g2
          clear he
          generalize nthI l k = x at *
          have c2 : (x != x) = false := by simp
          go_wp2
          go_quiet (fail)
          go_wp2
          go_roundw
          case rel => exact ⟨k + 1, _, by omega, by go_num, rfl, Hn.out⟩
          case measure => simp [intOf]; omega
        · have Hd := Lib.hid (decide_eq_false (fun e : l = m => he (by rw [e])))
          have c2 : (nthI l k != nthI m k) = true := by simpa using he
          clear ha HE he
          generalize nthI l k = x at *
          generalize nthI m k = y at *
          go_wp2
          go_quiet (fail)
          go_wp2
          go_ret
          exact ⟨by rw [Hd.out]; rfl, _, World.drewN_drewN _ _ _⟩
      · obtain rfl : k = l.length := by omega
        have Hd := Lib.hid (decide_eq_true (HE ha).out)
        clear ha HE
        go_wp2
        go_ret
        exact ⟨by rw [Hd.out]; rfl, _, rfl⟩
  · have hd : decide (l = m) = false := decide_eq_false (fun e => hlen (by rw [e]))
    have c1 : ((l.length : Int) != (m.length : Int)) = true := by simp; omega
    have c2 : (l.length != m.length) = true := by simpa using hlen
    have Hd := Lib.hid hd
    clear hd hlen
    go_enter Tryd.func21, Tryd.ntmps21
    go_wp2
    go_ret
    exact ⟨by rw [Hd.out]; rfl, 0, by rw [World.drewN_zero]⟩
theorem sameBlocks_any (P Q : Option Addr) (c d : Nat) (A B : Nat → Option Addr) (C D : Nat → Nat) (l m : List (List Int)) (w : World) (h1 : SlA w P c A C l) (h2 : SlA w Q d B D m) :
    Calls Tryd.prog 9 #[.slice P l.length c, .slice Q m.length d] w fun e w' => e = .returned (.bool (decide (l = m))) ∧ Ext w w' := by
  have hl1 := h1.len
  have hl2 := h2.len
  by_cases hlen : l.length = m.length
  · have HE := fun hj => Lib.hid (eq_of_nthA hlen hj)
    have HN := Lib.hid hlen
    rw [← hlen]
    clear hlen
    go_enter Tryd.func9, Tryd.ntmps9
    go_wp2
    go_loopw [5, 4] (fun i _ wr => ∃ k n : Nat, k ≤ l.length ∧ i = .int .i64 k ∧ wr = w.drewN n ∧ Hid (∀ j, j < k → nthA l j = nthA m j)) (fun i _ _ => l.length - (intOf i).toNat)
    case atStart => exact ⟨0, 0, by omega, rfl, by rw [World.drewN_zero], Lib.hid fun j hj => by omega⟩
    case round =>
      obtain ⟨k, n, hk, rfl, rfl, ha⟩ := hrel
      by_cases hlt : k < l.length
      · obtain ⟨b1, o1, rfl, g1⟩ := h1.at_ k hlt
        obtain ⟨b2, o2, rfl, g2⟩ := h2.at_ k (by have := HN.out; omega)
        have r1 := h1.row k hlt
        have r2 := h2.row k (by have := HN.out; omega)
        have c1 : (k : Int) < l.length := by omega
        have hS := fun q => sameInts_any _ _ _ _ _ _ (w.drewN q) (r1.ext ((Ext.refl w).drewN q)) (r2.ext ((Ext.refl w).drewN q))
        by_cases he : nthA l k = nthA m k
        · have Hn : Hid (∀ j, j < k + 1 → nthA l j = nthA m j) := Lib.hid fun j hj => by
            by_cases hjk : j = k
            · subst hjk; exact he
            · exact ha.out j (by omega)
          rw [decide_eq_true he] at hS
          clear HE he ha
          go_wp2
          go_quiet ((go_at_call 21; exact quiet_add_n (hS _)))
          go_wp2
          go_roundw
          case rel => exact ⟨k + 1, _, by omega, by go_num, rfl, Hn⟩
          case measure => simp [intOf]; omega
        · have Hd := Lib.hid (decide_eq_false (fun e : l = m => he (by rw [e])))
          rw [decide_eq_false he] at hS
          clear ha HE he
          go_wp2
          go_quiet ((go_at_call 21; exact quiet_add_n (hS _)))
          go_wp2
          go_ret
          exact ⟨by rw [Hd.out]; rfl, ((Ext.refl w).drewN _).drewN _⟩
      · obtain rfl : k = l.length := by omega
        have Hd := Lib.hid (decide_eq_true (HE ha.out).out)
        clear ha HE
        go_wp2
        go_ret
        exact ⟨by rw [Hd.out]; rfl, (Ext.refl w).drewN _⟩
  · have hd : decide (l = m) = false := decide_eq_false (fun e => hlen (by rw [e]))
    have c1 : ((l.length : Int) != (m.length : Int)) = true := by simp; omega
    have c2 : (l.length != m.length) = true := by simpa using hlen
    have Hd := Lib.hid hd
    clear hd hlen
    go_enter Tryd.func9, Tryd.ntmps9
    go_wp2
    go_ret
    exact ⟨by rw [Hd.out]; rfl, Ext.refl w⟩
end Go.Proofs.YtgdbhmdhonnmgaaDoor
